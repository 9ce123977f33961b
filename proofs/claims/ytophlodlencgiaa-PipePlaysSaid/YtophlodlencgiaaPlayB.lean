/-
  Walks: the document's pipe receives, and takes back.
-/
import Derived.Test.YtophlodlencgiaaPlayA
import Derived.Test.YtophlodlencgiaaVcgX
namespace Go.Proofs.Ytophlodlencgiaa
open Go.V

set_option maxHeartbeats 4000000 in
theorem okR_Recv (s : PSt) (hs : s.Ok) (h : Nat) (hh : h = s.hand.toNat) (hd : Nat → DV) :
    CallOK (O := Ob) PR n_ref25_Recv [.agg (rcells s h hd)] [] fun r m =>
      (∃ s' h' hd' d v, s.recv = (s', d, v) ∧ h' = s'.hand.toNat ∧ r = .tup [.agg (rcells s' h' hd'), .dv (d.getD .nils), .dv (.int .i64 v)]) ∧ m = [] := by
  refine fn_walk2 mixed fn_ref25_Recv (Ent.refl _ _) fun A P hA hP Q hQ => ?_
  cbv
  refine ⟨by subst hA; simp, fun k hk hk2 => ?_⟩
  obtain rfl : k = 1 := by subst hA; simpa using hk
  clear hk hk2
  cbv
  refine bc_split (fun h1 => ?_) (fun h1 => ?_)
  · cbv
    subst hQ hA
    exact ⟨.tup [.agg (rcells s h hd), .dv .nils, .dv (.int .i64 19)], [], Ent.none_ rfl, ⟨s, h, hd, none, 19, by rw [PSt.recv, if_pos h1], hh, rfl⟩, rfl⟩
  have hu : (s.e 1).held = false := h1
  cbv
  refine call_pure hP code_ref25_Meet (okR_Meet1 s h hh hd) (by cbv; all_goals simp) ?_
  rintro r ⟨s2, h2', v2, hm, hh2, rfl⟩
  have hs2 : s2.n ≤ 1000000000 ∧ 0 ≤ s2.got ∧ s2.got.toNat ≤ 1000000000 ∧ 0 ≤ s2.hand ∧ h2' ≤ 1000000000 := by
    have := hs.meet 1
    rw [hm] at this
    have a1 := this.got; have a2 := this.hand
    simp only at a1 a2
    exact ⟨this.n, a1.1, by omega, a2.1, by omega⟩
  cbv
  refine bc_split (fun h5 => ?_) (fun h5 => ?_)
  · cbv
    have h6 : v2 ≠ 0 := by subst hA; simpa using h5
    subst hQ hA
    refine ⟨.tup [.agg (rcells s2 h2' hd), .dv .nils, .dv (.int .i64 v2)], [], Ent.none_ rfl, ⟨s2, h2', hd, none, v2, ?_, hh2, rfl⟩, rfl⟩
    rw [PSt.recv, if_neg (by simp [hu])]
    simp only [hm]
    rw [if_pos h6]
  cbv
  have h6 : v2 = 0 := by subst hA; simpa using h5
  intro _
  cbv
  refine bc_split (fun h7 => ?_) (fun h7 => ?_)
  · cbv
    have h9 : (s2.n : Int) ≤ s2.got := by subst hA; simpa using h7
    subst hQ hA
    refine ⟨.tup [.agg (rcells s2 h2' hd), .dv .nils, .dv (.int .i64 6)], [], Ent.none_ rfl, ⟨s2, h2', hd, none, 6, ?_, hh2, rfl⟩, rfl⟩
    rw [PSt.recv, if_neg (by simp [hu])]
    simp only [hm]
    rw [if_neg (by simp [h6]), if_pos h9]
  have h9 : s2.got.toNat < s2.n := by
    have h9 : s2.got < (s2.n : Int) := by subst hA; simpa using h7
    omega
  have hmodel : s.recv = ({ s2 with got := s2.got + 1, hand := s2.hand + 1 }, some (s2.put s2.got.toNat), 0) := by
    rw [PSt.recv, if_neg (by simp [hu])]
    simp only [hm]
    rw [if_neg (by simp [h6]), if_neg (by omega)]
  clear h7
  cbv
  refine ⟨by subst hA; show 0 ≤ s2.got ∧ s2.got < (s2.n : Int); omega, fun k hk hk2 => ?_⟩
  have hk3 : k = s2.got.toNat := by subst hA; exact hk
  rw [← hk3] at hmodel
  cbv
  refine ⟨by subst hA; show h2' ≤ 17592186044416 ∧ h2' * 24 ≤ 140737488355328; omega, ?_⟩
  cbv
  refine ⟨by subst hA; show h2' + 1 ≤ 17592186044416 ∧ (h2' + 1) * 24 ≤ 140737488355328; omega, ?_⟩
  cbv
  have e1 : A.bin .add .i64 s2.got 1 = s2.got + 1 := by
    subst hA; simp only [std_add]; rw [w64_in (by omega)]
  subst hQ hA
  refine ⟨.tup [.agg (rcells { s2 with got := s2.got + 1, hand := s2.hand + 1 } (h2' + 1) fun i => if i < h2' then hd i else s2.put k), .dv (s2.put k), .dv (.int .i64 0)], [], (Ent.frz 4 (fun i _ => if i < h2' then hd i else s2.put k) rfl fun i f hi hf => ?_).trans (Ent.none_ (by exact congrArg (fun z => SV.tup [SV.agg [_, _, _, _, _, _, _, _, _, _, _, _, _, SV.dv (DV.int .i64 z), _], _, _]) e1)), ⟨_, h2' + 1, _, _, 0, hmodel, by simp only; omega, rfl⟩, rfl⟩
  have hi : i < h2' + 1 := hi
  obtain rfl : f = 0 := by omega
  show (if i < h2' then SV.dv (hd i) else listAt 1 [SV.dv (s2.put k)] (i - h2') 0) = SV.dv (if i < h2' then hd i else s2.put k)
  by_cases hin : i < h2'
  · rw [if_pos hin, if_pos hin]
  · obtain rfl : i = h2' := by omega
    rw [if_neg hin, if_neg hin, Nat.sub_self]; rfl

set_option maxHeartbeats 4000000 in
theorem okR_Release (s : PSt) (hs : s.Ok) (h : Nat) (hh : h = s.hand.toNat) (hd : Nat → DV) (j : Int) :
    CallOK (O := Ob) PR n_ref25_Release [.agg (rcells s h hd), .dv (.int .i64 j)] [] fun r m =>
      (∃ s' h' hd' v, s.release j = (s', v) ∧ h' = s'.hand.toNat ∧ r = .tup [.agg (rcells s' h' hd'), .dv (.int .i64 v)]) ∧ m = [] := by
  refine fn_walk2 mixed fn_ref25_Release (Ent.refl _ _) fun A P hA hP Q hQ => ?_
  cbv
  refine ⟨by subst hA; simp, fun k hk hk2 => ?_⟩
  obtain rfl : k = 1 := by subst hA; simpa using hk
  clear hk hk2
  cbv
  refine bc_split (fun h1 => ?_) (fun h1 => ?_)
  · cbv
    subst hQ hA
    exact ⟨.tup [.agg (rcells s h hd), .dv (.int .i64 19)], [], Ent.none_ rfl, ⟨s, h, hd, 19, by rw [PSt.release, if_pos h1], hh, rfl⟩, rfl⟩
  have hu : (s.e 1).held = false := h1
  have hs1 : h ≤ 1000000000 ∧ 0 ≤ s.hand ∧ s.hand.toNat = h := by
    have a := hs.hand
    exact ⟨by omega, a.1, hh.symm⟩
  cbv
  refine bc_split (fun h2 => ?_) (fun h2 => ?_)
  · cbv
    have h3 : j < 0 := by subst hA; simpa using h2
    subst hQ hA
    exact ⟨.tup [.agg (rcells s h hd), .dv (.int .i64 7)], [], Ent.none_ rfl, ⟨s, h, hd, 7, by rw [PSt.release, if_neg (by simp [hu]), if_pos (.inl h3)], hh, rfl⟩, rfl⟩
  have h3 : ¬ j < 0 := by subst hA; simpa using h2
  cbv
  intro _
  cbv
  refine bc_split (fun h4 => ?_) (fun h4 => ?_)
  · cbv
    have h5 : (h : Int) ≤ j := by subst hA; simpa using h4
    subst hQ hA
    exact ⟨.tup [.agg (rcells s h hd), .dv (.int .i64 7)], [], Ent.none_ rfl, ⟨s, h, hd, 7, by rw [PSt.release, if_neg (by simp [hu]), if_pos (.inr (by omega))], hh, rfl⟩, rfl⟩
  have h5 : j.toNat < h := by
    have h5 : j < (h : Int) := by subst hA; simpa using h4
    omega
  cbv
  refine ⟨by subst hA; show 0 ≤ (0 : Int) ∧ 0 ≤ j ∧ j ≤ (h : Int) ∧ (h : Int) ≤ h; omega, ?_⟩
  generalize hn1 : A.sub (A.toN j) (A.toN 0) = n1
  have hn1' : n1 = j.toNat := by subst hA; rw [← hn1]; show j.toNat - (0 : Int).toNat = j.toNat; simp
  cbv
  refine ⟨by subst hA; show n1 ≤ 17592186044416 ∧ n1 * 24 ≤ 140737488355328; omega, ?_⟩
  cbv
  have hj1 : A.bin .add .i64 j 1 = j + 1 := by subst hA; simp only [std_add]; rw [w64_in (by omega)]
  refine ⟨by subst hA; show 0 ≤ std.bin .add .i64 j 1 ∧ std.bin .add .i64 j 1 ≤ (h : Int) ∧ (h : Int) ≤ h ∧ (h : Int) ≤ h; rw [hj1]; omega, ?_⟩
  cbv
  refine ⟨?_, ?_⟩
  · subst hA
    show n1 + ((h : Int).toNat - (std.bin .add .i64 j 1).toNat) ≤ 17592186044416 ∧ (n1 + ((h : Int).toNat - (std.bin .add .i64 j 1).toNat)) * 24 ≤ 140737488355328
    rw [hj1]; omega
  cbv
  refine call_frz hP 3 (fun i _ => if i < n1 then hd i else hd (i + 1)) rfl ?hg [] code_ref25_Meet (okR_Meet1 { s with hand := s.hand - 1 } (A.add n1 (A.sub (A.toN (A.ofN h)) (A.toN (A.bin .add .i64 j 1)))) ?hh fun i => if i < n1 then hd i else hd (i + 1)) rfl trivial ⟨rfl, rfl, trivial⟩ ?_
  case hg =>
    intro i f hi hf
    obtain rfl : f = 0 := by omega
    subst hA
    show (if i < n1 then SV.dv (hd (0 + i)) else SV.dv (hd ((std.bin .add .i64 j 1).toNat + (i - n1)))) = SV.dv (if i < n1 then hd i else hd (i + 1))
    rw [hj1]
    by_cases hin : i < n1
    · rw [if_pos hin, if_pos hin, Nat.zero_add]
    · rw [if_neg hin, if_neg hin, show (j + 1).toNat + (i - n1) = i + 1 by omega]
  case hh =>
    subst hA
    show n1 + ((h : Int).toNat - (std.bin .add .i64 j 1).toNat) = (s.hand - 1).toNat
    rw [hj1]; omega
  rintro r m ⟨⟨s2, h2', v2, hm, hh2, rfl⟩, rfl⟩ _
  refine ⟨_, fun _ => Ent.refl _ _, ?_⟩
  have hmo : s.release j = if v2 ≠ 0 then (s2, v2) else ({ s2 with back := s2.back + 1 }, 0) := by
    rw [PSt.release, if_neg (by simp [hu]), if_neg (by omega)]
    simp only [hm]
  have hb2 : 0 ≤ s2.back ∧ s2.back.toNat ≤ 1000000000 := by
    have h' : PSt.Ok { s with hand := s.hand - 1 } := ⟨hs.n, hs.got, hs.back, ⟨by simp only; omega, by have := hs.hand.2; simp only; omega⟩, hs.puts⟩
    have := h'.meet 1
    rw [hm] at this
    have a := this.back
    simp only at a
    omega
  cbv
  refine bc_split (fun h6 => ?_) (fun h6 => ?_)
  · cbv
    have h7 : v2 ≠ 0 := by subst hA; simpa using h6
    rw [if_pos h7] at hmo
    subst hQ hA
    exact ⟨.tup [.agg (rcells s2 h2' _), .dv (.int .i64 v2)], [], Ent.none_ rfl, ⟨s2, h2', _, v2, hmo, hh2, rfl⟩, rfl⟩
  have h7 : v2 = 0 := by subst hA; simpa using h6
  rw [if_neg (by simp [h7])] at hmo
  cbv
  have e1 : A.bin .add .i64 s2.back 1 = s2.back + 1 := by
    subst hA; simp only [std_add]; rw [w64_in (by omega)]
  subst hQ hA
  exact ⟨.tup [.agg (rcells { s2 with back := s2.back + 1 } h2' _), .dv (.int .i64 0)], [], Ent.none_ (by exact congrArg (fun z => SV.tup [SV.agg [_, _, _, _, _, _, _, _, _, _, _, _, _, _, SV.dv (DV.int .i64 z)], _]) e1), ⟨_, h2', _, 0, hmo, hh2, rfl⟩, rfl⟩

end Go.Proofs.Ytophlodlencgiaa
