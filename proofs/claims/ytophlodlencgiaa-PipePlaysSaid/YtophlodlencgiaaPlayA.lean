/-
  Walks: the document's pipe sends.
-/
import Derived.Test.YtophlodlencgiaaPipeI
import Derived.Test.YtophlodlencgiaaPipeX
namespace Go.Proofs.Ytophlodlencgiaa
open Go.V

theorem okR_Meet0 (s : PSt) (h : Nat) (hh : h = s.hand.toNat) (hd : Nat → DV) : CallOK (O := Ob) PR n_ref25_Meet [.agg (rcells s h hd), .dv (.int .i64 0)] [] fun r m =>
    (∃ s' h' v, s.meet 0 = (s', v) ∧ h' = s'.hand.toNat ∧ r = .tup [.agg (rcells s' h' hd), .dv (.int .i64 v)]) ∧ m = [] := by
  refine (ok_R_Meet0 s h hd).ent fun r m => ?_
  rintro ⟨⟨s', h', v, h1, h2, h3⟩, h4⟩
  refine ⟨r, m, Ent.refl _ _, ⟨s', h', v, h1, ?_, h3⟩, h4⟩
  rcases h2 with ⟨a, b⟩ | ⟨a, b⟩
  · rw [b, hh, a]
  · rw [b, a]; rfl

theorem okR_Meet1 (s : PSt) (h : Nat) (hh : h = s.hand.toNat) (hd : Nat → DV) : CallOK (O := Ob) PR n_ref25_Meet [.agg (rcells s h hd), .dv (.int .i64 1)] [] fun r m =>
    (∃ s' h' v, s.meet 1 = (s', v) ∧ h' = s'.hand.toNat ∧ r = .tup [.agg (rcells s' h' hd), .dv (.int .i64 v)]) ∧ m = [] := by
  refine (ok_R_Meet1 s h hd).ent fun r m => ?_
  rintro ⟨⟨s', h', v, h1, h2, h3⟩, h4⟩
  refine ⟨r, m, Ent.refl _ _, ⟨s', h', v, h1, ?_, h3⟩, h4⟩
  rcases h2 with ⟨a, b⟩ | ⟨a, b⟩
  · rw [b, hh, a]
  · rw [b, a]; rfl

/-- The document's pipe as it lies in memory. -/
def rblk (s : PSt) (h : Nat) (hd : Nat → DV) : Chunk Ob :=
  .blk [.one (.dv (.int .i64 s.room)), .arr 2 5 (fun i f => .dv (endF (s.e i) f)), .one (.dv (.seq s.n 1 fun i _ => s.put i)), .one (.dv (.seq h 1 fun i _ => hd i)), .one (.dv (.int .i64 s.got)), .one (.dv (.int .i64 s.back))]

def jblk : Chunk Ob := .blk [.one .junk, .arr 2 5 (fun _ _ => .junk), .one .junk, .one .junk, .one .junk, .one .junk]

theorem two_five {p : Nat → Nat → Prop} (h00 : p 0 0) (h01 : p 0 1) (h02 : p 0 2) (h03 : p 0 3) (h04 : p 0 4) (h10 : p 1 0) (h11 : p 1 1) (h12 : p 1 2) (h13 : p 1 3) (h14 : p 1 4) : ∀ i f, i < 2 → f < 5 → p i f := by
  intro i f hi hf
  rcases (by omega : i = 0 ∨ i = 1) with rfl | rfl <;> rcases (by omega : f = 0 ∨ f = 1 ∨ f = 2 ∨ f = 3 ∨ f = 4) with rfl | rfl | rfl | rfl | rfl <;> assumption

set_option maxHeartbeats 4000000 in
theorem okR_Send (s : PSt) (hs : s.Ok) (h : Nat) (hh : h = s.hand.toNat) (hd : Nat → DV) (n : Nat) (g : Nat → Nat → DV) (x : Nat → Int) (hg : ∀ i, i < n → g i 0 = .int .i64 (x i)) :
    CallOK (O := Ob) PR n_ref25_Send [.agg (rcells s h hd), .dv (.seq n 1 g)] [] fun r m =>
      (∃ s' h' v, s.send (.seq n 1 g) n x = (s', v) ∧ h' = s'.hand.toNat ∧ r = .tup [.agg (rcells s' h' hd), .dv (.int .i64 v)]) ∧ m = [] := by
  refine fn_walk2 mixed fn_ref25_Send (Ent.refl _ _) fun A P hA hP Q hQ => ?_
  cbv
  refine ⟨by subst hA; simp, fun k hk hk2 => ?_⟩
  obtain rfl : k = 0 := by subst hA; simpa using hk
  clear hk hk2
  cbv
  refine bc_split (fun h1 => ?_) (fun h1 => ?_)
  · cbv
    subst hQ hA
    exact ⟨.tup [.agg (rcells s h hd), .dv (.int .i64 19)], [], Ent.none_ rfl, ⟨s, h, 19, by rw [PSt.send, if_pos h1], hh, rfl⟩, rfl⟩
  have hu : (s.e 0).held = false := h1
  cbv
  intro hn
  cbv
  refine bc_split (fun h2 => ?_) (fun h2 => ?_)
  · cbv
    have h8 : 8 < n := by subst hA; simp at h2; omega
    subst hQ hA
    exact ⟨.tup [.agg (rcells s h hd), .dv (.int .i64 18)], [], Ent.none_ rfl, ⟨s, h, 18, by rw [PSt.send, if_neg (by simp [hu]), if_pos h8], hh, rfl⟩, rfl⟩
  cbv
  have h8 : ¬ 8 < n := by subst hA; simp at h2; omega
  refine loop_at mixed hP hA (fun i : { i : Nat // i ≤ n ∧ ∀ j, j < i → x j = x j % 65536 } => ⟨envOf 66 [(0, .agg (rcells s h hd)), (1, .dv (.seq n 1 g)), (2, .ptr 0 0), (4, .ptr 1 0), (6, .dv (.int .i64 (A.ofN i.1)))], [rblk s h hd, jblk]⟩) (fun i => n - i.1) ⟨0, Nat.zero_le _, fun j hj => absurd hj (Nat.not_lt_zero j)⟩ ?_ ?_
  · refine Ent.trans (Ent.ren (s' := ⟨envOf 66 [(0, .agg (rcells s h hd)), (1, .dv (.seq n 1 g)), (2, .ptr 0 0), (4, .ptr 1 0), (6, .dv (.int .i64 0))], [rblk s h hd, jblk]⟩) [0, 1] rfl rfl ⟨⟨rfl, ⟨rfl, rfl, two_five rfl rfl rfl rfl rfl rfl rfl rfl rfl rfl⟩, rfl, rfl, rfl, rfl, trivial⟩, ⟨trivial, ⟨rfl, rfl, fun _ _ _ _ => trivial⟩, trivial, trivial, trivial, trivial, trivial⟩, trivial⟩ ?_) (Ent.env ?_)
    · cbv
      all_goals trivial
    · cbv
      subst hA
      simp
  rintro ⟨i, hi, he⟩
  cbv
  intro _
  cbv
  refine bc_split (fun h3 => ?_) (fun h3 => ?_)
  · cbv
    have h4 : i < n := by subst hA; simpa using h3
    refine ⟨by subst hA; simp; omega, fun k hk hk2 => ?_⟩
    obtain rfl : k = i := by subst hA; simpa using hk
    have hgk := hg k hk2
    cbv
    rw [hgk]
    cbv
    refine bc_split (fun h5 => ?_) (fun h5 => ?_)
    · cbv
      have h6 : x k < 0 := by subst hA; simpa using h5
      subst hQ hA
      refine ⟨.tup [.agg (rcells s h hd), .dv (.int .i64 2)], [], Ent.none_ rfl, ⟨s, h, 2, ?_, hh, rfl⟩, rfl⟩
      rw [PSt.send, if_neg (by simp [hu]), if_neg h8, if_pos]
      rw [wordsOk, List.all_eq_false]
      exact ⟨k, by simpa using hk2, by simp; omega⟩
    · cbv
      have h6 : ¬ x k < 0 := by subst hA; simpa using h5
      refine ⟨by subst hA; simp; omega, fun l hl hl2 => ?_⟩
      obtain rfl : l = k := by subst hA; simpa using hl
      cbv
      rw [hgk]
      cbv
      refine bc_split (fun h7 => ?_) (fun h7 => ?_)
      · cbv
        have h9 : 65535 < x l := by subst hA; simpa using h7
        subst hQ hA
        refine ⟨.tup [.agg (rcells s h hd), .dv (.int .i64 2)], [], Ent.none_ rfl, ⟨s, h, 2, ?_, hh, rfl⟩, rfl⟩
        rw [PSt.send, if_neg (by simp [hu]), if_neg h8, if_pos]
        rw [wordsOk, List.all_eq_false]
        exact ⟨l, by simpa using hk2, by simp; omega⟩
      · cbv
        have h9 : ¬ 65535 < x l := by subst hA; simpa using h7
        refine ⟨⟨l + 1, h4, below_succ he (by omega)⟩, by simp only; omega, Ent.env ?_⟩
        cbv
        subst hA
        simp
        have : n ≤ 8 := by omega
        rw [w64_in (by omega)]
  cbv
  have h4 : i = n := by subst hA; simp at h3; omega
  have hw : ¬ wordsOk n x = false := by
    rw [Bool.not_eq_false, wordsOk, List.all_eq_true]
    intro j hj
    exact decide_eq_true (he j (by rw [h4]; simpa using hj))
  refine call_pure hP code_ref25_Meet (okR_Meet0 s h hh hd) (by cbv; all_goals simp) ?_
  rintro r ⟨s2, h2', v2, hm, hh2, rfl⟩
  have hs2 : s2.n ≤ 1000000000 ∧ 0 ≤ s2.back ∧ s2.back.toNat ≤ 1000000000 := by
    have := hs.meet 0
    rw [hm] at this
    exact ⟨this.n, this.back.1, by have := this.back.2; simp only at this; omega⟩
  cbv
  refine bc_split (fun h5 => ?_) (fun h5 => ?_)
  · cbv
    have h6 : v2 ≠ 0 := by subst hA; simpa using h5
    subst hQ hA
    refine ⟨.tup [.agg (rcells s2 h2' hd), .dv (.int .i64 v2)], [], Ent.none_ rfl, ⟨s2, h2', v2, ?_, hh2, rfl⟩, rfl⟩
    rw [PSt.send, if_neg (by simp [hu]), if_neg h8, if_neg hw]
    simp only [hm]
    rw [if_pos h6]
  cbv
  have h6 : v2 = 0 := by subst hA; simpa using h5
  intro _
  cbv
  have e1 : A.bin .sub .i64 (A.ofN s2.n) s2.back = s2.n - s2.back := by
    subst hA; simp only [std_sub, std_ofN]; rw [w64_in (by omega)]
  refine bc_split (fun h7 => ?_) (fun h7 => ?_)
  · cbv
    have h9 : s2.room ≤ s2.n - s2.back := by
      have h7 : A.cmp .geq (A.bin .sub .i64 (A.ofN s2.n) s2.back) s2.room = true := h7
      rw [e1] at h7
      subst hA
      simpa using h7
    subst hQ hA
    refine ⟨.tup [.agg (rcells s2 h2' hd), .dv (.int .i64 5)], [], Ent.none_ rfl, ⟨s2, h2', 5, ?_, hh2, rfl⟩, rfl⟩
    rw [PSt.send, if_neg (by simp [hu]), if_neg h8, if_neg hw]
    simp only [hm]
    rw [if_neg (by simp [h6]), if_pos h9]
  have h9 : ¬ s2.room ≤ s2.n - s2.back := by
    have h7 : A.cmp .geq (A.bin .sub .i64 (A.ofN s2.n) s2.back) s2.room = false := h7
    rw [e1] at h7
    subst hA
    simpa using h7
  have hmodel : s.send (.seq n 1 g) n x = ({ s2 with n := s2.n + 1, put := fun i => if i < s2.n then s2.put i else .seq n 1 g }, 0) := by
    rw [PSt.send, if_neg (by simp [hu]), if_neg h8, if_neg hw]
    simp only [hm]
    rw [if_neg (by simp [h6]), if_neg h9]
  clear e1 h9
  cbv
  refine ⟨by subst hA; show s2.n ≤ 17592186044416 ∧ s2.n * 24 ≤ 140737488355328; omega, ?_⟩
  cbv
  refine ⟨by subst hA; show s2.n + 1 ≤ 17592186044416 ∧ (s2.n + 1) * 24 ≤ 140737488355328; omega, ?_⟩
  cbv
  subst hQ hA
  refine ⟨.tup [.agg (rcells { s2 with n := s2.n + 1, put := fun i => if i < s2.n then s2.put i else .seq n 1 g } h2' hd), .dv (.int .i64 0)], [], (Ent.frz 4 (fun i _ => if i < s2.n then s2.put i else .seq n 1 g) rfl fun i f hi hf => ?_).trans (Ent.none_ rfl), ⟨_, h2', 0, hmodel, hh2, rfl⟩, rfl⟩
  have hi : i < s2.n + 1 := hi
  obtain rfl : f = 0 := by omega
  show (if i < s2.n then SV.dv (s2.put i) else listAt 1 [SV.dv (.seq n 1 g)] (i - s2.n) 0) = SV.dv (if i < s2.n then s2.put i else .seq n 1 g)
  by_cases hin : i < s2.n
  · rw [if_pos hin, if_pos hin]
  · obtain rfl : i = s2.n := by omega
    rw [if_neg hin, if_neg hin, Nat.sub_self]; rfl

end Go.Proofs.Ytophlodlencgiaa
