/-
  Walks: the document's answers.
-/
import Derived.Test.YtophlodlencgiaaDoorFFoeH
namespace Go.Proofs.YtophlodlencgiaaDoor
open Go.V

set_option maxHeartbeats 8000000 in
theorem okR_Mine (c r b core addr : Int) : CallOK (O := Ob) PR n_ref23_Mine [.agg [.dv (.int .i64 c), .dv (.int .i64 r), .dv (.int .i64 b)], .dv (.int .i64 core), .dv (.int .i64 addr)] [] fun x m => (∃ v, v = mineI c r b core addr ∧ x = .dv (.bool v)) ∧ m = [] := by
  refine CallOK.drop (fn_walk mixed fn_ref23_Mine fun A P hA hP Q hQ => ?_)
  cbv
  refine call_pure hP code_ref23_has (okR_has c r b core) (by cbv; all_goals simp) ?_
  rintro _ ⟨ha, hha, rfl⟩
  cbv
  refine bc_split (fun h1 => ?_) (fun h1 => ?_)
  · have f1 : ha = false := by subst hA; simpa [std] using h1
    cbv
    subst hQ hA
    exact ⟨.dv (.bool false), rfl, false, by rw [mineI, ← hha, f1]; rfl, rfl⟩
  have hh : hasI c r b core = true := by rw [← hha]; subst hA; simpa [std] using h1
  have hr : rightC c r b = true := by simp only [hasI, Bool.and_eq_true] at hh; exact hh.1
  obtain ⟨v1, v2, _⟩ := right_vals hr
  have sb := size_bounds v2
  obtain ⟨s, hs⟩ : ∃ s, s = sizeI r := ⟨_, rfl⟩
  have sb : 26 ≤ s ∧ s ≤ 708 := by rw [hs]; exact sb
  have hadd : ∀ a : Int, 0 ≤ a → a ≤ 39648 → A.bin .add .i64 a s = a + s := by
    intro a h1 h2; subst hA; simp only [std_add]; rw [w64_in (by omega)]
  have hyes : ∀ k : Nat, k < c.toNat → hitI c r b core addr k → true = mineI c r b core addr := fun k hk hx => ((mine_iff hh).2 ⟨k, hk, hx⟩).symm
  clear h1
  cbv
  refine loop_at mixed hP hA (fun i : { k : Nat // k ≤ c.toNat ∧ ∀ j, j < k → ¬ hitI c r b core addr j } => ⟨envOf 68 [(0, .agg [.dv (.int .i64 c), .dv (.int .i64 r), .dv (.int .i64 b)]), (1, .dv (.int .i64 core)), (2, .dv (.int .i64 addr)), (3, .ptr 0 0), (7, .dv (.int .i64 (A.ofN i.1)))], [.blk [.one (.dv (.int .i64 c)), .one (.dv (.int .i64 r)), .one (.dv (.int .i64 b))]]⟩) (fun i => c.toNat - i.1) ⟨0, Nat.zero_le _, fun j hj => absurd hj (Nat.not_lt_zero j)⟩ (Ent.env (by cbv; subst hA; simp)) ?_
  rintro ⟨k, hk, hno⟩
  have hk : k ≤ c.toNat := hk
  cbv
  refine bc_split (fun h2 => ?_) (fun h2 => ?_)
  · have f2 : k < c.toNat := by subst hA; simp at h2; omega
    have q7 : A.bin .add .i64 (A.ofN k) 1 = A.ofN (k + 1) := by subst hA; simp; rw [w64_in (by omega)]
    have hyes := hyes k f2
    have hnext : ∀ (_ : ¬ hitI c r b core addr k), ∀ j, j < k + 1 → ¬ hitI c r b core addr j := fun h => below_succ hno h
    have ek : A.ofN k = (k : Int) := by subst hA; rfl
    cbv
    refine call_pure hP code_ref13_Base (ok_Base c r b core (A.ofN k) hr) (by cbv; all_goals simp) ?_
    rintro _ ⟨out, a, hoa, hov, rfl⟩
    rw [ek] at hoa hov
    cbv
    refine call_pure hP code_ref13_Base (ok_Base c r b (A.ofN k) core hr) (by cbv; all_goals simp) ?_
    rintro _ ⟨inn, d, hid, hiv, rfl⟩
    rw [ek] at hid hiv
    cbv
    refine call_pure hP code_ref13_Size (okR_Size r) (by cbv; all_goals trivial) ?_
    rintro _ ⟨s2, hs2, rfl⟩
    obtain rfl : s2 = s := hs2.trans hs.symm
    have hao : a = true → A.bin .add .i64 out s2 = out + s2 := by
      intro h; rw [hov h]; have := base_bounds hr (hoa.symm.trans h); exact hadd _ this.1 this.2
    have hio : d = true → A.bin .add .i64 inn s2 = inn + s2 := by
      intro h; rw [hiv h]; have := base_bounds hr (hid.symm.trans h); exact hadd _ this.1 this.2
    have hit1 : a = true → out ≤ addr → addr < out + s2 → hitI c r b core addr k := by
      intro h1 h2 h3; rw [hov h1] at h2 h3; exact .inl ⟨hoa.symm.trans h1, h2, by rw [← hs]; exact h3⟩
    have hit2 : d = true → inn ≤ addr → addr < inn + s2 → hitI c r b core addr k := by
      intro h1 h2 h3; rw [hiv h1] at h2 h3; exact .inr ⟨hid.symm.trans h1, h2, by rw [← hs]; exact h3⟩
    have miss : ¬ (a = true ∧ out ≤ addr ∧ addr < out + s2) → ¬ (d = true ∧ inn ≤ addr ∧ addr < inn + s2) → ¬ hitI c r b core addr k := by
      rintro n1 n2 (⟨h1, h2, h3⟩ | ⟨h1, h2, h3⟩)
      · have e := hoa.trans h1; rw [← hov e] at h2 h3; exact n1 ⟨e, h2, by rw [hs]; exact h3⟩
      · have e := hid.trans h1; rw [← hiv e] at h2 h3; exact n2 ⟨e, h2, by rw [hs]; exact h3⟩
    clear hov hiv hoa hid hadd
    cbv
    refine bc_split (fun a1 => ?_) (fun a1 => ?_)
    · cbv
      refine bc_split (fun a2 => ?_) (fun a2 => ?_)
      · have a2' : out ≤ addr := by subst hA; simpa using a2
        cbv
        refine bc_split (fun a3 => ?_) (fun a3 => ?_)
        · have a3' : addr < out + s2 := by
            have a3 : A.cmp .lss addr (A.bin .add .i64 out s2) = true := a3
            rw [hao a1] at a3; subst hA; simpa using a3
          cbv
          subst hQ hA
          exact ⟨.dv (.bool true), rfl, true, hyes (hit1 a1 a2' a3'), rfl⟩
        · have a3' : ¬ addr < out + s2 := by
            have a3 : A.cmp .lss addr (A.bin .add .i64 out s2) = false := a3
            rw [hao a1] at a3; subst hA; simpa using a3
          cbv
          refine bc_split (fun d1 => ?_) (fun d1 => ?_)
          · cbv
            refine bc_split (fun d2 => ?_) (fun d2 => ?_)
            · have d2' : inn ≤ addr := by subst hA; simpa using d2
              cbv
              refine bc_split (fun d3 => ?_) (fun d3 => ?_)
              · have d3' : addr < inn + s2 := by
                  have d3 : A.cmp .lss addr (A.bin .add .i64 inn s2) = true := d3
                  rw [hio d1] at d3; subst hA; simpa using d3
                cbv
                subst hQ hA
                exact ⟨.dv (.bool true), rfl, true, hyes (hit2 d1 d2' d3'), rfl⟩
              · have d3' : ¬ addr < inn + s2 := by
                  have d3 : A.cmp .lss addr (A.bin .add .i64 inn s2) = false := d3
                  rw [hio d1] at d3; subst hA; simpa using d3
                cbv
                refine ⟨⟨k + 1, f2, hnext (miss (fun h => a3' h.2.2) (fun h => d3' h.2.2))⟩, by simp only; omega, ?_⟩
                show Ent _ _ (⟨envOf 68 [(0, .agg [.dv (.int .i64 c), .dv (.int .i64 r), .dv (.int .i64 b)]), (1, .dv (.int .i64 core)), (2, .dv (.int .i64 addr)), (3, .ptr 0 0), (7, .dv (.int .i64 (A.ofN (k + 1))))], [.blk [.one (.dv (.int .i64 c)), .one (.dv (.int .i64 r)), .one (.dv (.int .i64 b))]]⟩ : St Ob)
                rw [← q7]
                exact Ent.env (by cbv; all_goals trivial)
            · have d2' : ¬ inn ≤ addr := by subst hA; simpa using d2
              cbv
              refine ⟨⟨k + 1, f2, hnext (miss (fun h => a3' h.2.2) (fun h => d2' h.2.1))⟩, by simp only; omega, ?_⟩
              show Ent _ _ (⟨envOf 68 [(0, .agg [.dv (.int .i64 c), .dv (.int .i64 r), .dv (.int .i64 b)]), (1, .dv (.int .i64 core)), (2, .dv (.int .i64 addr)), (3, .ptr 0 0), (7, .dv (.int .i64 (A.ofN (k + 1))))], [.blk [.one (.dv (.int .i64 c)), .one (.dv (.int .i64 r)), .one (.dv (.int .i64 b))]]⟩ : St Ob)
              rw [← q7]
              exact Ent.env (by cbv; all_goals trivial)
          · cbv
            refine ⟨⟨k + 1, f2, hnext (miss (fun h => a3' h.2.2) (fun h => by rw [d1] at h; cases h.1))⟩, by simp only; omega, ?_⟩
            show Ent _ _ (⟨envOf 68 [(0, .agg [.dv (.int .i64 c), .dv (.int .i64 r), .dv (.int .i64 b)]), (1, .dv (.int .i64 core)), (2, .dv (.int .i64 addr)), (3, .ptr 0 0), (7, .dv (.int .i64 (A.ofN (k + 1))))], [.blk [.one (.dv (.int .i64 c)), .one (.dv (.int .i64 r)), .one (.dv (.int .i64 b))]]⟩ : St Ob)
            rw [← q7]
            exact Ent.env (by cbv; all_goals trivial)
      · have a2' : ¬ out ≤ addr := by subst hA; simpa using a2
        cbv
        refine bc_split (fun d1 => ?_) (fun d1 => ?_)
        · cbv
          refine bc_split (fun d2 => ?_) (fun d2 => ?_)
          · have d2' : inn ≤ addr := by subst hA; simpa using d2
            cbv
            refine bc_split (fun d3 => ?_) (fun d3 => ?_)
            · have d3' : addr < inn + s2 := by
                have d3 : A.cmp .lss addr (A.bin .add .i64 inn s2) = true := d3
                rw [hio d1] at d3; subst hA; simpa using d3
              cbv
              subst hQ hA
              exact ⟨.dv (.bool true), rfl, true, hyes (hit2 d1 d2' d3'), rfl⟩
            · have d3' : ¬ addr < inn + s2 := by
                have d3 : A.cmp .lss addr (A.bin .add .i64 inn s2) = false := d3
                rw [hio d1] at d3; subst hA; simpa using d3
              cbv
              refine ⟨⟨k + 1, f2, hnext (miss (fun h => a2' h.2.1) (fun h => d3' h.2.2))⟩, by simp only; omega, ?_⟩
              show Ent _ _ (⟨envOf 68 [(0, .agg [.dv (.int .i64 c), .dv (.int .i64 r), .dv (.int .i64 b)]), (1, .dv (.int .i64 core)), (2, .dv (.int .i64 addr)), (3, .ptr 0 0), (7, .dv (.int .i64 (A.ofN (k + 1))))], [.blk [.one (.dv (.int .i64 c)), .one (.dv (.int .i64 r)), .one (.dv (.int .i64 b))]]⟩ : St Ob)
              rw [← q7]
              exact Ent.env (by cbv; all_goals trivial)
          · have d2' : ¬ inn ≤ addr := by subst hA; simpa using d2
            cbv
            refine ⟨⟨k + 1, f2, hnext (miss (fun h => a2' h.2.1) (fun h => d2' h.2.1))⟩, by simp only; omega, ?_⟩
            show Ent _ _ (⟨envOf 68 [(0, .agg [.dv (.int .i64 c), .dv (.int .i64 r), .dv (.int .i64 b)]), (1, .dv (.int .i64 core)), (2, .dv (.int .i64 addr)), (3, .ptr 0 0), (7, .dv (.int .i64 (A.ofN (k + 1))))], [.blk [.one (.dv (.int .i64 c)), .one (.dv (.int .i64 r)), .one (.dv (.int .i64 b))]]⟩ : St Ob)
            rw [← q7]
            exact Ent.env (by cbv; all_goals trivial)
        · cbv
          refine ⟨⟨k + 1, f2, hnext (miss (fun h => a2' h.2.1) (fun h => by rw [d1] at h; cases h.1))⟩, by simp only; omega, ?_⟩
          show Ent _ _ (⟨envOf 68 [(0, .agg [.dv (.int .i64 c), .dv (.int .i64 r), .dv (.int .i64 b)]), (1, .dv (.int .i64 core)), (2, .dv (.int .i64 addr)), (3, .ptr 0 0), (7, .dv (.int .i64 (A.ofN (k + 1))))], [.blk [.one (.dv (.int .i64 c)), .one (.dv (.int .i64 r)), .one (.dv (.int .i64 b))]]⟩ : St Ob)
          rw [← q7]
          exact Ent.env (by cbv; all_goals trivial)
    · cbv
      refine bc_split (fun d1 => ?_) (fun d1 => ?_)
      · cbv
        refine bc_split (fun d2 => ?_) (fun d2 => ?_)
        · have d2' : inn ≤ addr := by subst hA; simpa using d2
          cbv
          refine bc_split (fun d3 => ?_) (fun d3 => ?_)
          · have d3' : addr < inn + s2 := by
              have d3 : A.cmp .lss addr (A.bin .add .i64 inn s2) = true := d3
              rw [hio d1] at d3; subst hA; simpa using d3
            cbv
            subst hQ hA
            exact ⟨.dv (.bool true), rfl, true, hyes (hit2 d1 d2' d3'), rfl⟩
          · have d3' : ¬ addr < inn + s2 := by
              have d3 : A.cmp .lss addr (A.bin .add .i64 inn s2) = false := d3
              rw [hio d1] at d3; subst hA; simpa using d3
            cbv
            refine ⟨⟨k + 1, f2, hnext (miss (fun h => by rw [a1] at h; cases h.1) (fun h => d3' h.2.2))⟩, by simp only; omega, ?_⟩
            show Ent _ _ (⟨envOf 68 [(0, .agg [.dv (.int .i64 c), .dv (.int .i64 r), .dv (.int .i64 b)]), (1, .dv (.int .i64 core)), (2, .dv (.int .i64 addr)), (3, .ptr 0 0), (7, .dv (.int .i64 (A.ofN (k + 1))))], [.blk [.one (.dv (.int .i64 c)), .one (.dv (.int .i64 r)), .one (.dv (.int .i64 b))]]⟩ : St Ob)
            rw [← q7]
            exact Ent.env (by cbv; all_goals trivial)
        · have d2' : ¬ inn ≤ addr := by subst hA; simpa using d2
          cbv
          refine ⟨⟨k + 1, f2, hnext (miss (fun h => by rw [a1] at h; cases h.1) (fun h => d2' h.2.1))⟩, by simp only; omega, ?_⟩
          show Ent _ _ (⟨envOf 68 [(0, .agg [.dv (.int .i64 c), .dv (.int .i64 r), .dv (.int .i64 b)]), (1, .dv (.int .i64 core)), (2, .dv (.int .i64 addr)), (3, .ptr 0 0), (7, .dv (.int .i64 (A.ofN (k + 1))))], [.blk [.one (.dv (.int .i64 c)), .one (.dv (.int .i64 r)), .one (.dv (.int .i64 b))]]⟩ : St Ob)
          rw [← q7]
          exact Ent.env (by cbv; all_goals trivial)
      · cbv
        refine ⟨⟨k + 1, f2, hnext (miss (fun h => by rw [a1] at h; cases h.1) (fun h => by rw [d1] at h; cases h.1))⟩, by simp only; omega, ?_⟩
        show Ent _ _ (⟨envOf 68 [(0, .agg [.dv (.int .i64 c), .dv (.int .i64 r), .dv (.int .i64 b)]), (1, .dv (.int .i64 core)), (2, .dv (.int .i64 addr)), (3, .ptr 0 0), (7, .dv (.int .i64 (A.ofN (k + 1))))], [.blk [.one (.dv (.int .i64 c)), .one (.dv (.int .i64 r)), .one (.dv (.int .i64 b))]]⟩ : St Ob)
        rw [← q7]
        exact Ent.env (by cbv; all_goals trivial)
  · have f2 : k = c.toNat := by subst hA; simp at h2; omega
    have hfin : false = mineI c r b core addr := by
      symm
      rw [← Bool.not_eq_true, mine_iff hh]
      rintro ⟨j, hj, hx⟩
      exact hno j (by omega) hx
    cbv
    subst hQ hA
    exact ⟨.dv (.bool false), rfl, false, hfin, rfl⟩

end Go.Proofs.YtophlodlencgiaaDoor
