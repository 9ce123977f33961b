/-
  Walks: the document's channels.
-/
import Derived.Test.YtophlodlencgiaaDoorFFoeF
namespace Go.Proofs.YtophlodlencgiaaDoor
open Go.V

def idxI (c f t : Int) : Int := f * (c - 1) + (if f < t then t - 1 else t)
def baseI (c r f t : Int) : Int := idxI c f t * sizeI r

theorem mul_bound {n : Nat} {s : Int} (hn : n ≤ 56) (hs : 0 ≤ s ∧ s ≤ 708) : 0 ≤ (n : Int) * s ∧ (n : Int) * s ≤ 39648 := by
  refine ⟨Int.mul_nonneg (Int.natCast_nonneg n) hs.1, ?_⟩
  have h1 : (n : Int) * s ≤ 56 * s := Int.mul_le_mul_of_nonneg_right (by omega) hs.1
  omega

theorem cnt_bound {a m : Nat} (ha : a ≤ 8) (hm : m ≤ 7) : a * m ≤ 56 := Nat.mul_le_mul ha hm

def adjN (a b : Nat) : Nat := if a < b then b - 1 else b

def validI (c f t : Int) : Prop := 0 ≤ f ∧ f < c ∧ 0 ≤ t ∧ t < c ∧ f ≠ t

theorem idx_cast {c f t : Int} {a d m : Nat} (hf : f.toNat = a ∧ 0 ≤ f) (ht : t.toNat = d ∧ 0 ≤ t) (hm : m = c.toNat - 1) (hc : 2 ≤ c) : ((a * m + adjN a d : Nat) : Int) = idxI c f t := by
  have e4 : f = (a : Int) := by omega
  have e5 : t = (d : Int) := by omega
  have e6 : c - 1 = (m : Int) := by omega
  rw [idxI, e4, e5, e6, Int.natCast_add, Int.natCast_mul]
  congr 1
  unfold adjN
  split <;> split <;> omega

set_option maxHeartbeats 8000000 in
theorem ok_Base (c r b f t : Int) (hr : rightC c r b = true) : CallOK (O := Ob) PR n_ref13_Base [.agg [.dv (.int .i64 c), .dv (.int .i64 r), .dv (.int .i64 b)], .dv (.int .i64 f), .dv (.int .i64 t)] [] fun x m =>
    (∃ a ok, ok = ofI c r b f t ∧ (ok = true → a = baseI c r f t) ∧ x = .tup [.dv (.int .i64 a), .dv (.bool ok)]) ∧ m = [] := by
  refine CallOK.drop (fn_walk mixed fn_ref13_Base fun A P hA hP Q hQ => ?_)
  obtain ⟨v1, v2, _⟩ := right_vals hr
  have sb := size_bounds v2
  obtain ⟨s, hs⟩ : ∃ s, s = sizeI r := ⟨_, rfl⟩
  rw [← hs] at sb
  obtain ⟨m, hm⟩ : ∃ m : Nat, m = c.toNat - 1 := ⟨_, rfl⟩
  have hm7 : m ≤ 7 ∧ c.toNat = m + 1 ∧ c.toNat ≤ 8 := by omega
  cbv
  refine call_pure hP code_ref13_Right (okR_Right c r b) (by cbv; all_goals simp) ?_
  rintro _ ⟨ro, hro, rfl⟩
  obtain rfl : ro = true := hro.trans hr
  cbv
  refine bc_false (by subst hA; simp [std]) ?_
  cbv
  refine loop_at mixed hP hA (fun i : { p : Nat × Nat × Int // p.1 ≤ c.toNat ∧ p.2.1 = p.1 * m ∧ p.2.2 = p.2.1 * s ∧ (validI c f t → p.1 ≤ f.toNat) } => ⟨envOf 43 [(0, .agg [.dv (.int .i64 c), .dv (.int .i64 r), .dv (.int .i64 b)]), (1, .dv (.int .i64 f)), (2, .dv (.int .i64 t)), (3, .ptr 0 0), (8, .dv (.int .i64 i.1.2.2)), (9, .dv (.int .i64 (A.ofN i.1.1)))], [.blk [.one (.dv (.int .i64 c)), .one (.dv (.int .i64 r)), .one (.dv (.int .i64 b))]]⟩) (fun i => c.toNat - i.1.1) ⟨(0, 0, 0), Nat.zero_le _, by simp, by simp, fun _ => Nat.zero_le _⟩ (Ent.env (by cbv; subst hA; simp)) ?_
  rintro ⟨⟨a, cnt, at_⟩, ha, hcnt, hat, hv⟩
  have ha : a ≤ c.toNat := ha
  have hcnt : cnt = a * m := hcnt
  have hat : at_ = (cnt : Int) * s := hat
  have hv : validI c f t → a ≤ f.toNat := hv
  clear hro
  have hdone : ¬ a < c.toNat → ofI c r b f t = false := by
    intro h
    by_cases hx : validI c f t
    · have := hv hx; unfold validI at hx; omega
    · rw [ofI, decide_eq_false (show ¬ (0 ≤ f ∧ f < c ∧ 0 ≤ t ∧ t < c ∧ f ≠ t) from hx)]; simp
  cbv
  refine bc_split (fun h1 => ?_) (fun h1 => ?_)
  · have f1 : a < c.toNat := by subst hA; simp at h1; omega
    cbv
    refine loop_at mixed hP hA (fun i : { p : Nat × Nat × Int // p.1 ≤ c.toNat ∧ p.2.1 = a * m + adjN a p.1 ∧ p.2.2 = p.2.1 * s ∧ (validI c f t → a = f.toNat → p.1 ≤ t.toNat) } => ⟨envOf 43 [(0, .agg [.dv (.int .i64 c), .dv (.int .i64 r), .dv (.int .i64 b)]), (1, .dv (.int .i64 f)), (2, .dv (.int .i64 t)), (3, .ptr 0 0), (8, .dv (.int .i64 i.1.2.2)), (9, .dv (.int .i64 (A.ofN a))), (10, .dv (.int .i64 (A.ofN i.1.1)))], [.blk [.one (.dv (.int .i64 c)), .one (.dv (.int .i64 r)), .one (.dv (.int .i64 b))]]⟩) (fun i => c.toNat - i.1.1) ⟨(0, cnt, at_), Nat.zero_le _, by simp [adjN, hcnt], hat, fun _ _ => Nat.zero_le _⟩ (Ent.env (by cbv; subst hA; simp)) ?_
    rintro ⟨⟨d, cn2, at2⟩, hd, hcn2, hat2, hw⟩
    have hd : d ≤ c.toNat := hd
    have hcn2 : cn2 = a * m + adjN a d := hcn2
    have hat2 : at2 = (cn2 : Int) * s := hat2
    have hw : validI c f t → a = f.toNat → d ≤ t.toNat := hw
    have ham : a * m ≤ 7 * 7 := Nat.mul_le_mul (by omega) hm7.1
    have hcn3 : cn2 ≤ 56 := by rw [hcn2]; unfold adjN; split <;> omega
    have hb2 : 0 ≤ at2 ∧ at2.toNat ≤ 39648 := by have := mul_bound hcn3 ⟨by omega, sb.2⟩; rw [hat2]; omega
    have q10 : A.bin .add .i64 (A.ofN d) 1 = A.ofN (d + 1) := by subst hA; simp; rw [w64_in (by omega)]
    cbv
    refine bc_split (fun h2 => ?_) (fun h2 => ?_)
    · have f2 : d < c.toNat := by subst hA; simp at h2; omega
      cbv
      refine bc_split (fun h3 => ?_) (fun h3 => ?_)
      · have f3 : a = d := by subst hA; simp at h3; omega
        have e1 : cn2 = a * m + adjN a (d + 1) := by rw [hcn2]; unfold adjN; split <;> split <;> omega
        have e2 : validI c f t → a = f.toNat → d + 1 ≤ t.toNat := by intro hx hy; have := hw hx hy; unfold validI at hx; omega
        cbv
        refine ⟨⟨(d + 1, cn2, at2), f2, e1, hat2, e2⟩, by simp only; omega, ?_⟩
        show Ent _ _ (⟨envOf 43 [(0, .agg [.dv (.int .i64 c), .dv (.int .i64 r), .dv (.int .i64 b)]), (1, .dv (.int .i64 f)), (2, .dv (.int .i64 t)), (3, .ptr 0 0), (8, .dv (.int .i64 at2)), (9, .dv (.int .i64 (A.ofN a))), (10, .dv (.int .i64 (A.ofN (d + 1))))], [.blk [.one (.dv (.int .i64 c)), .one (.dv (.int .i64 r)), .one (.dv (.int .i64 b))]]⟩ : St Ob)
        rw [← q10]
        exact Ent.env (by cbv; all_goals trivial)
      have f3 : ¬ a = d := by subst hA; simp at h3; omega
      have e1 : cn2 + 1 = a * m + adjN a (d + 1) := by rw [hcn2]; unfold adjN; split <;> split <;> omega
      have e3 : at2 + s = ((cn2 + 1 : Nat) : Int) * s := by rw [hat2, Int.natCast_add, Int.add_mul]; simp
      have goal3 : ∀ (e2 : validI c f t → a = f.toNat → d + 1 ≤ t.toNat) (s2 : Int), s2 = s → Ent 0 ⟨envOf 43 [(0, .agg [.dv (.int .i64 c), .dv (.int .i64 r), .dv (.int .i64 b)]), (1, .dv (.int .i64 f)), (2, .dv (.int .i64 t)), (3, .ptr 0 0), (8, .dv (.int .i64 (A.bin .add .i64 at2 s2))), (9, .dv (.int .i64 (A.ofN a))), (10, .dv (.int .i64 (A.bin .add .i64 (A.ofN d) 1)))], [.blk [.one (.dv (.int .i64 c)), .one (.dv (.int .i64 r)), .one (.dv (.int .i64 b))]]⟩ (⟨envOf 43 [(0, .agg [.dv (.int .i64 c), .dv (.int .i64 r), .dv (.int .i64 b)]), (1, .dv (.int .i64 f)), (2, .dv (.int .i64 t)), (3, .ptr 0 0), (8, .dv (.int .i64 (at2 + s))), (9, .dv (.int .i64 (A.ofN a))), (10, .dv (.int .i64 (A.ofN (d + 1))))], [.blk [.one (.dv (.int .i64 c)), .one (.dv (.int .i64 r)), .one (.dv (.int .i64 b))]]⟩ : St Ob) := by
        intro _ s2 h
        rw [q10, h, show A.bin .add .i64 at2 s = at2 + s by subst hA; simp only [std_add]; rw [w64_in (by omega)]]
        exact Ent.refl _ _
      cbv
      refine bc_split (fun h4 => ?_) (fun h4 => ?_)
      · have f4 : f.toNat = a ∧ 0 ≤ f := by subst hA; simp at h4; omega
        cbv
        refine bc_split (fun h5 => ?_) (fun h5 => ?_)
        · have f5 : t.toNat = d ∧ 0 ≤ t := by subst hA; simp at h5; omega
          have hok : true = ofI c r b f t := by rw [ofI, hr, decide_eq_true (by omega)]; rfl
          have hval : at2 = baseI c r f t := by
            rw [baseI, ← hs, ← idx_cast f4 f5 hm v1.1, ← hcn2]
            exact hat2
          cbv
          subst hQ hA
          exact ⟨.tup [.dv (.int .i64 at2), .dv (.bool true)], rfl, at2, true, hok, fun _ => hval, rfl⟩
        · have f5 : ¬ (t.toNat = d ∧ 0 ≤ t) := by subst hA; simp at h5; omega
          have e2 : validI c f t → a = f.toNat → d + 1 ≤ t.toNat := by intro hx hy; have := hw hx hy; unfold validI at hx; omega
          cbv
          refine call_pure hP code_ref13_Size (okR_Size r) (by cbv; all_goals trivial) ?_
          rintro _ ⟨s2, hs2, rfl⟩
          cbv
          refine ⟨⟨(d + 1, cn2 + 1, at2 + s), f2, e1, e3, e2⟩, by simp only; omega, Ent.trans (Ent.env (by cbv; all_goals trivial)) (goal3 e2 s2 (hs2.trans hs.symm))⟩
      · have f4 : ¬ (f.toNat = a ∧ 0 ≤ f) := by subst hA; simp at h4; omega
        have e2 : validI c f t → a = f.toNat → d + 1 ≤ t.toNat := by intro hx hy; unfold validI at hx; omega
        cbv
        refine call_pure hP code_ref13_Size (okR_Size r) (by cbv; all_goals trivial) ?_
        rintro _ ⟨s2, hs2, rfl⟩
        cbv
        refine ⟨⟨(d + 1, cn2 + 1, at2 + s), f2, e1, e3, e2⟩, by simp only; omega, Ent.trans (Ent.env (by cbv; all_goals trivial)) (goal3 e2 s2 (hs2.trans hs.symm))⟩
    · have f2 : d = c.toNat := by subst hA; simp at h2; omega
      have e1 : cn2 = (a + 1) * m := by rw [hcn2, Nat.succ_mul]; unfold adjN; split <;> omega
      have e2 : validI c f t → a + 1 ≤ f.toNat := by
        intro hx
        have := hv hx
        by_cases hy : a = f.toNat
        · have := hw hx hy; unfold validI at hx; omega
        · omega
      have q9 : A.bin .add .i64 (A.ofN a) 1 = A.ofN (a + 1) := by subst hA; simp; rw [w64_in (by omega)]
      cbv
      refine ⟨⟨(a + 1, cn2, at2), f1, e1, hat2, e2⟩, by simp only; omega, ?_⟩
      show Ent _ _ (⟨envOf 43 [(0, .agg [.dv (.int .i64 c), .dv (.int .i64 r), .dv (.int .i64 b)]), (1, .dv (.int .i64 f)), (2, .dv (.int .i64 t)), (3, .ptr 0 0), (8, .dv (.int .i64 at2)), (9, .dv (.int .i64 (A.ofN (a + 1))))], [.blk [.one (.dv (.int .i64 c)), .one (.dv (.int .i64 r)), .one (.dv (.int .i64 b))]]⟩ : St Ob)
      rw [← q9]
      exact Ent.env (by cbv; all_goals trivial)
  · have f1 : ¬ a < c.toNat := by subst hA; simp at h1; omega
    cbv
    subst hQ hA
    exact ⟨.tup [.dv (.int .i64 0), .dv (.bool false)], rfl, 0, false, (hdone f1).symm, by simp, rfl⟩

end Go.Proofs.YtophlodlencgiaaDoor
