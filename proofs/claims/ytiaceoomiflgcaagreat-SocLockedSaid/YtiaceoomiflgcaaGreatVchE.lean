/-
  A window of a vector of data becomes whole for ever.
-/
import Derived.Test.YtiaceoomiflgcaaGreatVchD
namespace Go.V

theorem Ent.frzwin {O : Type} [Objs O] {n : Nat} {env : List SV} {mem : List (Chunk O)} (i h : Nat) {lo r : Nat} {c : Option Nat} {m sz : Nat} {at_ : Nat → Nat → SV} (g : Nat → Nat → DV) (hv : lget env i = some (.win h lo r c sz)) (hget : lget mem h = some (.vec m sz at_)) (hle : lo + r ≤ m)
    (hg : ∀ x f, x < r → f < sz → at_ (lo + x) f = .dv (g x f)) : Ent n ⟨env, mem⟩ ⟨lset env i (.dv (.seq r sz g)), lset mem h .gone⟩ := by
  rintro fr a w rfl ⟨hd, β, I, F, hm, hE, hW, hB, hN⟩
  have hm : MSat β I w F mem := hm
  have hE : RelL β mem.length I w env a.tmps.toList := hE
  have hN : fr.n ≤ mem.length := hN
  have hgetE : mem[h]? = some (.vec m sz at_) := by rw [← lget_eq]; exact hget
  have hc := hm.chunk h _ hgetE
  simp only [CSat] at hc
  obtain ⟨hl, hn, hcap, hnil, hc⟩ := hc
  let I' : Nat → Prop := fun b => I b ∨ F h b
  let F' : Nat → Nat → Prop := fun k b => k ≠ h ∧ F k b
  have hlen : (lset mem h (.gone : Chunk O)).length = mem.length := by simp [lset_eq]
  obtain ⟨v, hvx, hvr⟩ := hE.get hv
  have hseq : DRel I' w (.seq r sz g) v := by
    simp only [Rel] at hvr
    obtain ⟨_, hrn, ad, k, rfl, hrk, hlk, _, _, hk⟩ := hvr
    simp only [DRel]
    refine ⟨ad, k, rfl, hrn, hrk, fun h0 => ?_⟩
    obtain ⟨hnf, rfl⟩ := hk (by omega)
    have hc0 : (β h).cap ≠ 0 := by omega
    rw [if_neg hc0] at hc
    obtain ⟨hF, cs, T, hb, hsz, hr⟩ := hc
    have e1 : (lo + r) * sz ≤ (β h).cap * sz := Nat.mul_le_mul_right _ (by omega)
    rw [Nat.add_mul] at e1
    refine ⟨_, _, cs, T, (0, 0), rfl, .inr ((hF _).2 rfl), hb, by omega, fun x f hx hf => ?_⟩
    obtain ⟨y, hy, hry, _⟩ := hr (lo + x) f (by omega) hf
    rw [hg x f hx hf] at hry
    simp only [Rel] at hry
    rw [Nat.add_mul, ← Nat.add_assoc] at hy
    have : cs.getD ((β h).off + lo * sz + x * sz + f) undef = y := by simp [Array.getD_eq_getD_getElem?, hy]
    rw [this]
    exact hry.mono (fun _ h => .inl h) (fun _ _ => rfl)
  have hstep : RelL β mem.length I' w env a.tmps.toList := hE.mono (fun _ _ => rfl) (Nat.le_refl _) (fun _ h => .inl h) (fun _ _ => rfl)
  refine ⟨hd, β, I', F', ⟨fun k c hk => ?_, fun k k' b h1 h2 => hm.apart k k' b h1.2 h2.2, fun k b hk hF => ?_, fun k b hF => ⟨(hm.old k b hF.2).1, fun hI => ?_⟩, ⟨fun b hb => ?_, hm.wh.2.mono (fun _ h => .inl h) fun _ _ => rfl⟩⟩, ?_, ?_, hB, ?_⟩
  · replace hk : (lset mem h (.gone : Chunk O))[k]? = some c := hk
    rw [lset_eq, List.getElem?_set] at hk
    show CSat β (lset mem h (.gone : Chunk O)).length I' w k (F' k) c
    rw [hlen]
    split at hk
    · rename_i e
      subst e
      split at hk
      · simp only [Option.some.injEq] at hk
        subst hk
        exact fun b hb => hb.1 rfl
      · cases hk
    · rename_i e
      have e1 : F' k = F k := by funext b; simp [F', Ne.symm e]
      rw [e1]
      exact (hm.chunk k c hk).mono (lt_get hk) (fun _ _ => rfl) (Nat.le_refl _) (fun _ h => .inl h) (fun _ _ => rfl)
  · have hle : mem.length ≤ k := by
      have h0 : (lset mem h (.gone : Chunk O)).length ≤ k := hk
      rw [hlen] at h0; exact h0
    exact hm.none k b hle hF.2
  · rcases hI with hI | hI
    · exact (hm.old k b hF.2).2 hI
    · exact hF.1 (hm.apart k h b hF.2 hI)
  · exact hb.elim (hm.whole b) fun hF => (hm.old h b hF).1
  · show RelL β (lset mem h (.gone : Chunk O)).length I' w (lset env i (.dv (.seq r sz g))) a.tmps.toList
    rw [hlen]
    have h1 := hstep.set (i := i) (v := .dv (.seq r sz g)) (x := v) (by simpa only [Rel] using hseq)
    have e : a.tmps.toList.set i v = a.tmps.toList := by
      apply List.ext_getElem?
      intro k
      rw [List.getElem?_set]
      split
      · rename_i hk
        subst hk
        split
        · exact hvx.symm
        · rename_i hlt
          rw [List.getElem?_eq_none (by omega)]
      · rfl
    rw [e] at h1
    exact h1
  · refine ⟨hW.os, hW.tape, hW.output, hW.size, fun b hb hF => hW.same b hb hF, hW.frozen, fun b hb => .inl (hW.keep b hb), fun b ⟨k, hb⟩ => hW.ownd b ⟨k, hb.2⟩, fun b hb => ?_⟩
    rcases hb with hb | hb
    · exact hW.whole b hb
    · exact .inr (hW.ownd b ⟨h, hb⟩)
  · show fr.n ≤ (lset mem h (.gone : Chunk O)).length
    rw [hlen]; exact hN

/-- The result is a window of a vector of data, which becomes whole for ever: the other chunks of the caller's are as they are. -/
theorem leaf_win {O : Type} [Objs O] {n : Nat} {m m' : List (Chunk O)} {Q : SV → List (Chunk O) → Prop} (h : Nat) {lo r : Nat} {c : Option Nat} {k sz : Nat} {at_ : Nat → Nat → SV} (g : Nat → Nat → DV) (hget : lget m h = some (.vec k sz at_)) (hle : lo + r ≤ k)
    (hg : ∀ x f, x < r → f < sz → at_ (lo + x) f = .dv (g x f)) (hs : List Nat) (hid : idN n 0 hs = true) (hnd : nodupN hs = true) (hm : MLe hs (lset m h .gone) hs m') (hq : Q (.dv (.seq r sz g)) m') :
    ∃ r' m', Ent n ⟨[.win h lo r c sz], m⟩ ⟨[r'], m'⟩ ∧ Q r' m' :=
  ⟨_, m', (Ent.frzwin (env := [.win h lo r c sz]) 0 h g rfl hget hle hg).trans (Ent.ren (s' := ⟨[.dv (.seq r sz g)], m'⟩) hs hid hnd hm ⟨rfl, trivial⟩), hq⟩

end Go.V
