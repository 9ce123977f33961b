/-
  What is shown of a call in a part of the memory holds in the whole.
-/
import Derived.Test.YtiaceoomiflgcaaVceE
namespace Go.V
variable {O : Type} [Objs O]

theorem CallOK.at {P : Program} {f : FuncId} {args args' : List SV} {mem lmem : List (Chunk O)} {Q : SV → List (Chunk O) → Prop} (hs : List Nat)
    (hcall : CallOK P f args' lmem Q) (hnd : nodupN hs = true) (hmem : MLe hs mem hs lmem) (hargs : LLe hs args args') :
    CallOK P f args mem fun r m => ∃ r0 m0, Q r0 m0 ∧ lmem.length ≤ m0.length ∧ r = renV (hs ++ rangeN (m0.length - lmem.length) mem.length) r0 ∧ m = wback hs (renM (hs ++ rangeN (m0.length - lmem.length) mem.length) m0) mem := by
  intro β I w F vs hM hV
  have hndp := nodupN_ok hnd
  obtain ⟨β1, F1, hσ, hM1, hF1⟩ := hM.part hndp hmem
  have hlen : lmem.length = hs.length := hσ.len
  have hlt : ∀ h ∈ hs, h < mem.length := fun h hh => by
    obtain ⟨j, hj⟩ := List.getElem?_of_mem hh
    exact hσ.lt j h (by rw [lget_eq]; exact hj)
  refine Calls.mono (hcall β1 I w F1 vs hM1 (hargs.rel hσ hV)) ?_
  rintro e w' ⟨v, β2, I', F2, r, m, rfl, hW2, hβ2, hml, hM2, hr, hq⟩
  have hW2' : Went w (fun b => ∃ h, h ∈ hs ∧ F h b) I w' (fun b => ∃ h, F2 h b) I' := hW2.own fun b ⟨j, hj⟩ => by
    obtain ⟨h, e, hF⟩ := hF1 j b hj
    rw [lget_eq] at e
    exact ⟨h, List.mem_of_getElem? e, hF⟩
  obtain ⟨β', F', hτ, hM', hβ', hmlen, hW', _⟩ := hM.merge hndp hlt hW2' hM2 (by omega) fun j h e => by
    rw [hβ2 j (by rw [hlen]; rw [lget_eq] at e; exact (List.getElem?_eq_some_iff.1 e).1), hσ.eq j h e]
  rw [← hlen] at hτ hM' hmlen
  exact ⟨v, β', I', F', _, _, rfl, hW', hβ', hmlen, hM', (ren_rel hτ).2 hr, r, m, hq, hml, rfl, rfl⟩

/-- A function that touches no memory, in any. -/
theorem CallOK.frame {P : Program} {f : FuncId} {args args' : List SV} {Q : SV → Prop} (h : CallOK (O := O) P f args' [] fun r m => Q r ∧ m = []) (hargs : LLe [] args args') (mem : List (Chunk O)) :
    CallOK P f args mem fun r m => (∃ r0, Q r0 ∧ r = renV [] r0) ∧ m = mem := by
  refine (h.at [] rfl trivial hargs).mono ?_
  rintro r m ⟨r0, m0, ⟨hq, rfl⟩, _, rfl, rfl⟩
  exact ⟨⟨r0, hq, rfl⟩, by simp [renM, wback]⟩

end Go.V
