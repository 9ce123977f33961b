/-
  The last cell of an address, in any memory.
-/
import Derived.Test.YtiaceoomiflgcaaFndC
namespace Go.Proofs.Ytiaceoomiflgcaa
open Go.V

theorem find_call {β : Nat → HI} {I : Nat → Prop} {w : World} {F : Nat → Nat → Prop} {mem : List (Chunk Ob)} (hM : MSat β I w F mem) (a : Option Addr) (len cap : Nat) (x : Int) (zs : List (Nat × Nat)) (ps : List (Option (Int × Int))) (hps : cellsO zs = some ps)
    (hreach : zs.length ≤ 140737488355328) (hC : Cpx w.heap.size w (.slice a len cap) zs) :
    Calls PR n_cell_Find #[.slice a len cap, .int .i64 x] w fun e w' => ∃ v β' I' F' sv mem', e = .returned v ∧ Went w (fun b => ∃ h, F h b) I w' (fun b => ∃ h, F' h b) I' ∧
      (∀ h, h < mem.length → β' h = β h) ∧ mem.length ≤ mem'.length ∧ MSat β' I' w' F' mem' ∧ Rel β' mem'.length I' w' sv v ∧ sv = .tup [.dv (.int .i64 (foundO (findO x ps)).1), .dv (.bool (foundO (findO x ps)).2)] ∧ mem' = mem := by
  refine Calls.mono (callsIn_wide.1 (Find_in hM.wh.2 hM.whole a len cap x zs ps hps hreach hC)) ?_
  rintro e w' ⟨rfl, hB⟩
  refine ⟨_, β, I, F, _, mem, rfl, ⟨hB.os, hB.tape, hB.output, hB.size, fun b hb _ => hB.block b hb, fun a ha => World.frozen?_of_block (hB.block _ ha), fun _ h => h, fun _ h => .inl h, fun _ h => .inl h⟩,
    fun _ _ => rfl, Nat.le_refl _, hM.below hB.size hB.block, ?_, rfl, rfl⟩
  simp only [Rel, RelL, DRel]
  exact ⟨[_, _], rfl, _, _, rfl, rfl, _, _, rfl, rfl, rfl⟩

theorem findP_ok (args : List SV) (mem : List (Chunk Ob)) (r : SV) (m' : List (Chunk Ob)) (h : findP args mem = some (r, m')) : CallOK PR n_cell_Find args mem fun r1 m1 => r1 = r ∧ m1 = m' := by
  unfold findP at h
  split at h
  · rename_i x
    cases h
    intro β I w F vs hM hV
    simp only [RelL, Rel, DRel] at hV
    obtain ⟨_, _, rfl, rfl, _, _, rfl, rfl, rfl⟩ := hV
    exact find_call hM none 0 0 x [] [] rfl (by simp) (.inl ⟨none, rfl, rfl⟩)
  · rename_i hh x
    split at h
    · rename_i n at_ hget
      split at h
      · rename_i zs hzs
        split at h
        · rename_i ps hps
          cases h
          obtain ⟨hlen, hz⟩ := rowC_ok hzs
          intro β I w F vs hM hV
          simp only [RelL, Rel, DRel] at hV
          obtain ⟨_, _, rfl, ⟨hlt, rfl⟩, _, _, rfl, rfl, rfl⟩ := hV
          have hc := hM.chunk hh _ (by rw [← lget_eq]; exact hget)
          simp only [CSat] at hc
          obtain ⟨hl, hn, hcap, hnil, hc⟩ := hc
          have hreach : zs.length ≤ 140737488355328 := by
            rw [hlen]
            exact hn
          rw [hl]
          refine find_call hM _ n _ x zs ps hps hreach ?_
          by_cases h0 : (β hh).cap = 0
          · have : n = 0 := by omega
            subst this
            rw [h0]
            exact .inl ⟨_, rfl, List.eq_nil_of_length_eq_zero hlen⟩
          · rw [if_neg h0] at hc
            obtain ⟨_, cs, T, hb, _, hr⟩ := hc
            have hni : (β hh).nil = false := by
              cases e : (β hh).nil with
              | false => rfl
              | true => exact absurd (hnil e) h0
            rw [HI.adr_some hni h0, ← hlen]
            refine .inr ⟨_, _, _, rfl, (Array.getElem?_eq_some_iff.1 hb).1, fun j z hj => ?_⟩
            have hjn : j < n := by rw [← hlen]; exact (List.getElem?_eq_some_iff.1 hj).1
            obtain ⟨v, hv, hrel, _⟩ := hr j 0 hjn (by omega)
            rw [hz j z hj] at hrel
            simp only [Rel, DRel] at hrel
            subst hrel
            simp only [Nat.mul_one, Nat.add_zero] at hv
            simp [World.cell?, hb, hv]
        · cases h
      · cases h
    · cases h
  · rename_i hh lo n c x
    split at h
    · rename_i N at_ hget
      split at h
      · rename_i hle
        have hle := Nat.le_of_ble_eq_true hle
        split at h
        · rename_i zs hzs
          split at h
          · rename_i ps hps
            cases h
            obtain ⟨hlen, hz⟩ := rowC_ok hzs
            intro β I w F vs hM hV
            simp only [RelL, Rel, DRel] at hV
            obtain ⟨_, _, rfl, ⟨hlt, hnm, a, k, rfl, hnk, hlk, _, _, ha⟩, _, _, rfl, rfl, rfl⟩ := hV
            have hc := hM.chunk hh _ (by rw [← lget_eq]; exact hget)
            simp only [CSat] at hc
            obtain ⟨hl, hn, hcap, hnil, hc⟩ := hc
            have hreach : zs.length ≤ 140737488355328 := by
              rw [hlen]
              exact hnm
            refine find_call hM _ n _ x zs ps hps hreach ?_
            by_cases h0 : k = 0
            · subst h0
              have : n = 0 := by omega
              subst this
              exact .inl ⟨_, rfl, List.eq_nil_of_length_eq_zero hlen⟩
            · obtain ⟨hni, rfl⟩ := ha (by omega)
              rw [if_neg (by omega : ¬ (β hh).cap = 0)] at hc
              obtain ⟨_, cs, T, hb, _, hr⟩ := hc
              rw [← hlen]
              refine .inr ⟨_, _, _, rfl, (Array.getElem?_eq_some_iff.1 hb).1, fun j z hj => ?_⟩
              have hjn : j < n := by rw [← hlen]; exact (List.getElem?_eq_some_iff.1 hj).1
              obtain ⟨v, hv, hrel, _⟩ := hr (lo + j) 0 (by omega) (by omega)
              have e := hz j z hj
              rw [e] at hrel
              simp only [Rel, DRel] at hrel
              subst hrel
              simp only [Nat.mul_one, Nat.add_zero, ← Nat.add_assoc] at hv
              simp [World.cell?, hb, hv]
          · cases h
        · cases h
      · cases h
    · cases h
  · cases h

end Go.Proofs.Ytiaceoomiflgcaa
