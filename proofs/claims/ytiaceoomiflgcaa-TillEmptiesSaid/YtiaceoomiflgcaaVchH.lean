/-
  A window of a vector among the temporaries is seen as a vector of its own; the old vector is gone.
-/
import Derived.Test.YtiaceoomiflgcaaVchG
namespace Go.V

theorem Ent.cut {O : Type} [Objs O] {n : Nat} {env : List SV} {mem : List (Chunk O)} (i g : Nat) {lo r m sz : Nat} {c : Option Nat} {at_ : Nat → Nat → SV} (hv : lget env i = some (.win g lo r c sz)) (hgv : lget mem g = some (.vec m sz at_)) (hlm : lo + r ≤ m) :
    Ent n ⟨env, mem⟩ ⟨lset env i (.vec mem.length), lset mem g .gone ++ [.vec r sz fun x f => at_ (lo + x) f]⟩ := by
  rintro fr a w rfl ⟨hd, β, I, F, hm, hE, hW, hB, hN⟩
  have hm : MSat β I w F mem := hm
  have hE : RelL β mem.length I w env a.tmps.toList := hE
  have hN : fr.n ≤ mem.length := hN
  have hgvE : mem[g]? = some (.vec m sz at_) := by rw [← lget_eq]; exact hgv
  have hg : g < mem.length := lt_get hgvE
  have hcg := hm.chunk g _ hgvE
  simp only [CSat] at hcg
  obtain ⟨x, hx, hr⟩ := RelL.get' hE hv
  simp only [Rel] at hr
  obtain ⟨_, hrn, ad, k, rfl, hrk, hlk, _, _, hk⟩ := hr
  obtain ⟨g1, g2, g3, g4, g5⟩ := hcg
  obtain ⟨hi, hadr, hil, hic, hin, hib⟩ : ∃ hi : HI, hi.adr = ad ∧ hi.len = r ∧ hi.cap = k ∧ (hi.nil = true → k = 0) ∧ (0 < k → hi.blk = (β g).blk ∧ hi.off = (β g).off + lo * sz) := by
    rcases Nat.eq_zero_or_pos k with h0 | h0
    · subst h0
      obtain rfl : r = 0 := by omega
      cases ad with
      | none => exact ⟨⟨0, 0, 0, 0, true, none⟩, rfl, rfl, rfl, fun _ => rfl, fun h => absurd h (Nat.lt_irrefl 0)⟩
      | some ad => exact ⟨⟨ad.block, ad.off, 0, 0, false, ad.spot⟩, rfl, rfl, rfl, fun _ => rfl, fun h => absurd h (Nat.lt_irrefl 0)⟩
    · obtain ⟨k1, k2⟩ := hk h0
      refine ⟨⟨(β g).blk, (β g).off + lo * sz, r, k, false, none⟩, ?_, rfl, rfl, nofun, fun _ => ⟨rfl, rfl⟩⟩
      rw [k2]
      simp [HI.adr]
  let N := mem.length
  let F' : Nat → Nat → Prop := fun j b => if j = N then 0 < k ∧ F g b else if j = g then False else F j b
  have hin' : ∀ j b, F' j b → if j = N then F g b else F j b := by
    intro j b hb
    simp only [F'] at hb
    split at hb
    · rw [if_pos ‹_›]; exact hb.2
    · rw [if_neg ‹_›]
      split at hb
      · exact hb.elim
      · exact hb
  have hlen : (lset mem g (.gone : Chunk O) ++ [(.vec r sz fun x f => at_ (lo + x) f : Chunk O)]).length = N + 1 := by simp [lset_eq, N]
  refine ⟨hd, fup β N hi, I, F', ⟨fun j c hc => ?_, fun j j' b e1 e2 => ?_, fun j b hj hF => ?_, fun j b hF => ?_, hm.wh⟩, ?_, ?_, fun j hj => ?_, ?_⟩
  · show CSat (fup β N hi) _ I w j (F' j) c
    rw [hlen]
    have hc : (lset mem g (.gone : Chunk O) ++ [(.vec r sz fun x f => at_ (lo + x) f : Chunk O)])[j]? = some c := hc
    by_cases hjN : j = N
    · subst hjN
      rw [List.getElem?_append_right (by simp [lset_eq, N]), show N - (lset mem g (.gone : Chunk O)).length = 0 by simp [lset_eq, N]] at hc
      simp only [List.getElem?_cons_zero, Option.some.injEq] at hc
      subst hc
      simp only [CSat, fup_eq]
      refine ⟨hil, hrn, by rw [hic]; exact hrk, fun h => by rw [hic]; exact hin h, ?_⟩
      rw [hic]
      split
      · rename_i h0
        subst h0
        intro b hb
        simp [F'] at hb
      · rename_i h0
        have hpos : 0 < k := Nat.pos_of_ne_zero h0
        obtain ⟨hib1, hib2⟩ := hib hpos
        rw [if_neg (by omega)] at g5
        obtain ⟨g5, cs', T', g6, g7, g8⟩ := g5
        have e1 : (lo + k) * sz ≤ (β g).cap * sz := Nat.mul_le_mul_right _ hlk
        rw [Nat.add_mul] at e1
        refine ⟨fun b => ?_, cs', T', by rw [hib1]; exact g6, by rw [hib2]; omega, fun i f hi' hf => ?_⟩
        · rw [hib1, ← g5]; simp [F', hpos]
        · obtain ⟨y, hy, hry, ho⟩ := g8 (lo + i) f (by omega) hf
          rw [Nat.add_mul, ← Nat.add_assoc] at hy
          exact ⟨y, by rw [hib2]; exact hy, hry.mono (fun _ hh => fup_lt hh) (Nat.le_succ _) (fun _ h => h) (fun _ _ => rfl), ho⟩
    · have hjl : j < mem.length := by
        have := lt_get hc
        rw [hlen] at this
        omega
      rw [List.getElem?_append_left (by simpa [lset_eq] using hjl), lset_eq, List.getElem?_set] at hc
      by_cases hjg : g = j
      · subst hjg
        rw [if_pos rfl, if_pos hg] at hc
        simp only [Option.some.injEq] at hc
        subst hc
        intro b hb
        simp [F', hjN] at hb
      · rw [if_neg hjg] at hc
        have e2 : F' j = F j := by funext b; simp [F', hjN, Ne.symm hjg]
        rw [e2]
        exact (hm.chunk j c hc).mono hjl (fun _ hh => fup_lt hh) (Nat.le_succ _) (fun _ h => h) (fun _ _ => rfl)
  · have q1 := hin' j b e1
    have q2 := hin' j' b e2
    simp only [F'] at e1 e2
    by_cases hj : j = N <;> by_cases hj' : j' = N
    · rw [hj, hj']
    · rw [if_pos hj] at q1; rw [if_neg hj'] at q2 e2
      have := hm.apart g j' b q1 q2
      subst this
      rw [if_pos rfl] at e2
      exact e2.elim
    · rw [if_neg hj] at q1 e1; rw [if_pos hj'] at q2
      have := hm.apart g j b q2 q1
      subst this
      rw [if_pos rfl] at e1
      exact e1.elim
    · rw [if_neg hj] at q1; rw [if_neg hj'] at q2
      exact hm.apart j j' b q1 q2
  · have hj : (lset mem g (.gone : Chunk O) ++ [(.vec r sz fun x f => at_ (lo + x) f : Chunk O)]).length ≤ j := hj
    rw [hlen] at hj
    have := hin' j b hF
    rw [if_neg (by omega)] at this
    exact hm.none j b (by omega) this
  · have := hin' j b hF
    split at this
    · exact hm.old g b this
    · exact hm.old j b this
  · show RelL (fup β N hi) _ I w (lset env i (.vec mem.length)) a.tmps.toList
    rw [hlen]
    have hE2 : RelL (fup β N hi) (N + 1) I w env a.tmps.toList := hE.mono (fun _ hh => fup_lt hh) (Nat.le_succ _) (fun _ h => h) (fun _ _ => rfl)
    have h1 := hE2.set (i := i) (v := .vec mem.length) (x := .slice ad r k) (by
      simp only [Rel]
      refine ⟨Nat.lt_succ_self _, ?_⟩
      show _ = Value.slice (fup β N hi N).adr (fup β N hi N).len (fup β N hi N).cap
      rw [fup_eq, hadr, hil, hic])
    have e : a.tmps.toList.set i (.slice ad r k) = a.tmps.toList := by
      apply List.ext_getElem?
      intro q
      rw [List.getElem?_set]
      split
      · rename_i hq
        subst hq
        split
        · exact hx.symm
        · rename_i hlt
          rw [List.getElem?_eq_none (by omega)]
      · rfl
    rw [e] at h1
    exact h1
  · refine ⟨hW.os, hW.tape, hW.output, hW.size, hW.same, hW.frozen, hW.keep, fun b ⟨j, hb⟩ => ?_, hW.whole⟩
    have := hin' j b hb
    split at this
    · exact hW.ownd b ⟨g, this⟩
    · exact hW.ownd b ⟨j, this⟩
  · rw [fup_lt (Nat.lt_of_lt_of_le hj hN)]; exact hB j hj
  · show fr.n ≤ _
    rw [hlen]
    exact Nat.le_succ_of_le hN

end Go.V
