/-
  Walks: how many wait in the document's pipe; its calls.
-/
import Derived.Test.YtophlodlencgiaaPlayB
namespace Go.Proofs.Ytophlodlencgiaa
open Go.V

set_option maxHeartbeats 4000000 in
theorem okR_Waits (s : PSt) (hs : s.Ok) (h : Nat) (hd : Nat → DV) :
    CallOK (O := Ob) PR n_ref25_Waits [.agg (rcells s h hd)] [] fun r m => (∃ v, v = s.waits ∧ r = .dv (.int .i64 v)) ∧ m = [] := by
  refine fn_walk2 mixed fn_ref25_Waits (Ent.refl _ _) fun A P hA hP Q hQ => ?_
  have hl : ∀ a b c d : Bool, a = (s.e 0).held → b = (s.e 1).held → c = (s.e 0).linked → d = (s.e 1).linked → (a = true ∨ b = true ∨ c = false ∨ d = false) → s.waits = 0 := by
    intro a b c d ha hb hc hd' h
    subst ha hb hc hd'
    rw [PSt.waits, if_neg]
    rintro ⟨h1, h2, _⟩
    simp [PSt.linked, PSt.up] at h1 h2
    rcases h with h | h | h | h <;> simp_all
  have hl2 : (s.e 0).held = false → (s.e 1).held = false → (s.e 0).linked = true → (s.e 1).linked = true → s.waits = if (s.e 0).link = (s.e 1).link then s.n - s.got else 0 := by
    intro h1 h2 h3 h4
    rw [PSt.waits]
    congr 1
    simp [PSt.linked, PSt.up, h1, h2, h3, h4]
  cbv
  refine ⟨by subst hA; simp, fun k hk hk2 => ?_⟩
  obtain rfl : k = 0 := by subst hA; simpa using hk
  clear hk hk2
  cbv
  refine ⟨by subst hA; simp, fun k hk hk2 => ?_⟩
  obtain rfl : k = 1 := by subst hA; simpa using hk
  clear hk hk2
  cbv
  refine And.intro ?_ ?_
  all_goals
    refine bc_split (fun h1 => ?_) (fun h1 => ?_)
    · cbv
      subst hQ hA
      exact ⟨.dv (.int .i64 0), [], Ent.none_ rfl, ⟨0, (hl _ _ _ _ rfl rfl rfl rfl (.inl h1)).symm, rfl⟩, rfl⟩
    cbv
    refine bc_split (fun h2 => ?_) (fun h2 => ?_)
    · cbv
      subst hQ hA
      exact ⟨.dv (.int .i64 0), [], Ent.none_ rfl, ⟨0, (hl _ _ _ _ rfl rfl rfl rfl (.inr (.inl h2))).symm, rfl⟩, rfl⟩
    cbv
    refine bc_split (fun h3 => ?_) (fun h3 => ?_)
    · cbv
      have h3' : (s.e 0).linked = false := by subst hA; simpa [std] using h3
      subst hQ hA
      exact ⟨.dv (.int .i64 0), [], Ent.none_ rfl, ⟨0, (hl _ _ _ _ rfl rfl rfl rfl (.inr (.inr (.inl h3')))).symm, rfl⟩, rfl⟩
    cbv
    have h3' : (s.e 0).linked = true := by subst hA; simpa [std] using h3
    refine bc_split (fun h4 => ?_) (fun h4 => ?_)
    · cbv
      have h4' : (s.e 1).linked = false := by subst hA; simpa [std] using h4
      subst hQ hA
      exact ⟨.dv (.int .i64 0), [], Ent.none_ rfl, ⟨0, (hl _ _ _ _ rfl rfl rfl rfl (.inr (.inr (.inr h4')))).symm, rfl⟩, rfl⟩
    cbv
    have h4' : (s.e 1).linked = true := by subst hA; simpa [std] using h4
    have hw := hl2 h1 h2 h3' h4'
    refine call_pure hP code_ref25_link (ok_ref25_link (s.e 0)) (by cbv; all_goals simp) ?_
    rintro r ⟨x, hx, rfl⟩
    cbv
    refine call_pure hP code_ref25_link (ok_ref25_link (s.e 1)) (by cbv; all_goals simp) ?_
    rintro r ⟨y, hy, rfl⟩
    cbv
    refine bc_split (fun h5 => ?_) (fun h5 => ?_)
    · cbv
      have h5' : x ≠ y := by subst hA; simpa using h5
      subst hQ hA
      exact ⟨.dv (.int .i64 0), [], Ent.none_ rfl, ⟨0, by rw [hw, if_neg (by rw [← hx, ← hy]; exact h5')], rfl⟩, rfl⟩
    have h5' : x = y := by subst hA; simpa using h5
    rw [if_pos (by rw [← hx, ← hy]; exact h5')] at hw
    have hb : s.n ≤ 1000000000 ∧ 0 ≤ s.got ∧ s.got ≤ 1000000000 := ⟨hs.n, hs.got.1, hs.got.2⟩
    have e1 : A.bin .sub .i64 (A.ofN s.n) s.got = s.waits := by
      rw [hw]; subst hA; simp only [std_sub, std_ofN]; rw [w64_in (by omega)]
    cbv
    intro _
    cbv
    subst hQ hA
    exact ⟨.dv (.int .i64 s.waits), [], Ent.none_ (by exact congrArg (fun z => SV.dv (DV.int .i64 z)) e1), ⟨_, rfl, rfl⟩, rfl⟩

end Go.Proofs.Ytophlodlencgiaa
