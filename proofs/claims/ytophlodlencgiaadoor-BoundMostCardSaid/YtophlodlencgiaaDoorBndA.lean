/-
  Walks: how often a call may touch.
-/
import Derived.Test.YtophlodlencgiaaDoorVcgX
import Derived.Test.YtophlodlencgiaaDoorDIr
namespace Go.Proofs.YtophlodlencgiaaDoor
open Go.V

def mostI (kind ring words : Int) : Int :=
  if ring < 0 ∨ 64 < ring ∨ words < 0 ∨ 8 < words then 0
  else if kind = 1 then 10 + ring + words else if kind = 2 then 6 + words else if kind = 3 then 6 else 0

set_option maxHeartbeats 4000000 in
theorem ok_Most (kind ring words : Int) : CallOK (O := Ob) PR n_bound_Most [.dv (.int .i64 kind), .dv (.int .i64 ring), .dv (.int .i64 words)] [] fun r m => (∃ v, v = mostI kind ring words ∧ r = .dv (.int .i64 v)) ∧ m = [] := by
  refine fn_walk mixed fn_bound_Most fun A P hA hP Q hQ => ?_
  cbv
  refine bc_split (fun h1 => ?_) (fun h1 => ?_)
  · cbv
    have f : kind < 1 := by subst hA; simpa using h1
    subst hQ hA
    refine ⟨⟨0, ?_, rfl⟩, rfl⟩
    unfold mostI; repeat' split
    all_goals omega
  have f1 : ¬ kind < 1 := by subst hA; simpa using h1
  cbv
  refine bc_split (fun h1 => ?_) (fun h1 => ?_)
  · cbv
    have f : 3 < kind := by subst hA; simpa using h1
    subst hQ hA
    refine ⟨⟨0, ?_, rfl⟩, rfl⟩
    unfold mostI; repeat' split
    all_goals omega
  have f2 : ¬ 3 < kind := by subst hA; simpa using h1
  cbv
  refine bc_split (fun h1 => ?_) (fun h1 => ?_)
  · cbv
    have f : ring < 0 := by subst hA; simpa using h1
    subst hQ hA
    exact ⟨⟨0, by rw [mostI, if_pos (by omega)], rfl⟩, rfl⟩
  have f3 : ¬ ring < 0 := by subst hA; simpa using h1
  cbv
  refine bc_split (fun h1 => ?_) (fun h1 => ?_)
  · cbv
    have f : 64 < ring := by subst hA; simpa using h1
    subst hQ hA
    exact ⟨⟨0, by rw [mostI, if_pos (by omega)], rfl⟩, rfl⟩
  have f4 : ¬ 64 < ring := by subst hA; simpa using h1
  cbv
  refine bc_split (fun h1 => ?_) (fun h1 => ?_)
  · cbv
    have f : words < 0 := by subst hA; simpa using h1
    subst hQ hA
    exact ⟨⟨0, by rw [mostI, if_pos (by omega)], rfl⟩, rfl⟩
  have f5 : ¬ words < 0 := by subst hA; simpa using h1
  cbv
  refine bc_split (fun h1 => ?_) (fun h1 => ?_)
  · cbv
    have f : 8 < words := by subst hA; simpa using h1
    subst hQ hA
    exact ⟨⟨0, by rw [mostI, if_pos (by omega)], rfl⟩, rfl⟩
  have f6 : ¬ 8 < words := by subst hA; simpa using h1
  clear h1
  rcases (by omega : kind = 1 ∨ kind = 2 ∨ kind = 3) with rfl | rfl | rfl
  · cbv
    refine ⟨by subst hA; simp, fun k hk hk2 => ?_⟩
    obtain rfl : k = 1 := by subst hA; simpa using hk
    clear hk hk2
    cbv
    refine bc_true (by subst hA; simp) ?_
    cbv
    subst hQ hA
    refine ⟨⟨_, ?_, rfl⟩, rfl⟩
    show std.bin .add .i64 10 (std.bin .add .i64 ring words) = _
    simp only [std_add]
    rw [w64_in (n := ring + words) (by omega), w64_in (by omega), mostI, if_neg (by omega), if_pos rfl]; omega
  · cbv
    refine ⟨by subst hA; simp, fun k hk hk2 => ?_⟩
    obtain rfl : k = 2 := by subst hA; simpa using hk
    clear hk hk2
    cbv
    refine bc_false (by subst hA; simp) ?_
    cbv
    refine bc_true (by subst hA; simp) ?_
    cbv
    subst hQ hA
    refine ⟨⟨_, ?_, rfl⟩, rfl⟩
    show std.bin .add .i64 6 words = _
    simp only [std_add]
    rw [w64_in (by omega), mostI, if_neg (by omega), if_neg (by omega), if_pos rfl]
  · cbv
    refine ⟨by subst hA; simp, fun k hk hk2 => ?_⟩
    obtain rfl : k = 3 := by subst hA; simpa using hk
    clear hk hk2
    cbv
    refine bc_false (by subst hA; simp) ?_
    cbv
    refine bc_false (by subst hA; simp) ?_
    cbv
    subst hQ hA
    refine ⟨⟨6, ?_, rfl⟩, rfl⟩
    rw [mostI, if_neg (by omega), if_neg (by omega), if_neg (by omega), if_pos rfl]

set_option maxHeartbeats 8000000 in
theorem okR_Most (kind ring words : Int) : CallOK (O := Ob) PR n_ref24_Most [.dv (.int .i64 kind), .dv (.int .i64 ring), .dv (.int .i64 words)] [] fun r m => (∃ v, v = mostI kind ring words ∧ r = .dv (.int .i64 v)) ∧ m = [] := by
  refine fn_walk mixed fn_ref24_Most fun A P hA hP Q hQ => ?_
  have hadd : ∀ a b : Int, -1000 ≤ a → a ≤ 1000 → -1000 ≤ b → b ≤ 1000 → A.bin .add .i64 a b = a + b := by
    intro a b h1 h2 h3 h4
    subst hA; simp only [std_add]; rw [w64_in (by omega)]
  cbv
  refine bc_split (fun h1 => ?_) (fun h1 => ?_)
  · cbv
    have f : ring < 0 := by subst hA; simpa using h1
    subst hQ hA
    exact ⟨⟨0, by rw [mostI, if_pos (by omega)], rfl⟩, rfl⟩
  have f3 : ¬ ring < 0 := by subst hA; simpa using h1
  cbv
  refine bc_split (fun h1 => ?_) (fun h1 => ?_)
  · cbv
    have f : 64 < ring := by subst hA; simpa using h1
    subst hQ hA
    exact ⟨⟨0, by rw [mostI, if_pos (by omega)], rfl⟩, rfl⟩
  have f4 : ¬ 64 < ring := by subst hA; simpa using h1
  cbv
  refine bc_split (fun h1 => ?_) (fun h1 => ?_)
  · cbv
    have f : words < 0 := by subst hA; simpa using h1
    subst hQ hA
    exact ⟨⟨0, by rw [mostI, if_pos (by omega)], rfl⟩, rfl⟩
  have f5 : ¬ words < 0 := by subst hA; simpa using h1
  cbv
  refine bc_split (fun h1 => ?_) (fun h1 => ?_)
  · cbv
    have f : 8 < words := by subst hA; simpa using h1
    subst hQ hA
    exact ⟨⟨0, by rw [mostI, if_pos (by omega)], rfl⟩, rfl⟩
  have f6 : ¬ 8 < words := by subst hA; simpa using h1
  clear h1
  cbv
  refine bc_split (fun h1 => ?_) (fun h1 => ?_)
  · obtain rfl : kind = 1 := by subst hA; simpa using h1
    cbv
    refine loop_at mixed hP hA (fun i : { p : Nat × Int // p.1 ≤ ring.toNat ∧ p.2 = 3 + p.1 } => ⟨envOf 82 [(0, .dv (.int .i64 1)), (1, .dv (.int .i64 ring)), (2, .dv (.int .i64 words)), (7, .dv (.int .i64 i.1.2)), (8, .dv (.int .i64 (A.ofN i.1.1))), (25, .dv (.int .i64 1))], []⟩) (fun i => ring.toNat - i.1.1) ⟨(0, 3), Nat.zero_le _, by simp⟩ (Ent.env (by cbv; subst hA; simp [w64])) ?_
    rintro ⟨⟨i, c⟩, hi, hc⟩
    have hi : i ≤ ring.toNat := hi
    have hc : c.toNat = 3 + i ∧ 0 ≤ c := by have hc : c = 3 + (i : Int) := hc; omega
    cbv
    refine bc_split (fun h2 => ?_) (fun h2 => ?_)
    · cbv
      have h3 : i < ring.toNat := by subst hA; simp at h2; omega
      refine ⟨⟨(i + 1, c + 1), h3, by show c + 1 = 3 + ((i + 1 : Nat) : Int); omega⟩, by simp only; omega, ?_⟩
      show Ent _ _ (⟨envOf 82 [(0, .dv (.int .i64 1)), (1, .dv (.int .i64 ring)), (2, .dv (.int .i64 words)), (7, .dv (.int .i64 (c + 1))), (8, .dv (.int .i64 (A.ofN (i + 1)))), (25, .dv (.int .i64 1))], []⟩ : St Ob)
      rw [← hadd c 1 (by omega) (by omega) (by omega) (by omega), show A.ofN (i + 1) = A.bin .add .i64 (A.ofN i) 1 by subst hA; simp; rw [w64_in (by omega)]]
      exact Ent.env (by cbv; all_goals trivial)
    have h3 : i = ring.toNat := by subst hA; simp at h2; omega
    subst h3
    clear h2 hi
    cbv
    refine loop_at mixed hP hA (fun j : { p : Nat × Int // p.1 ≤ words.toNat ∧ p.2 = c + p.1 } => ⟨envOf 82 [(0, .dv (.int .i64 1)), (1, .dv (.int .i64 ring)), (2, .dv (.int .i64 words)), (7, .dv (.int .i64 j.1.2)), (9, .dv (.int .i64 (A.ofN j.1.1))), (25, .dv (.int .i64 1))], []⟩) (fun i => words.toNat - i.1.1) ⟨(0, c), Nat.zero_le _, by simp⟩ (Ent.env (by cbv; subst hA; simp)) ?_
    rintro ⟨⟨j, e⟩, hj, he⟩
    have hj : j ≤ words.toNat := hj
    have he : e.toNat = c.toNat + j ∧ 0 ≤ e := by have he : e = c + (j : Int) := he; omega
    cbv
    refine bc_split (fun h2 => ?_) (fun h2 => ?_)
    · cbv
      have h3 : j < words.toNat := by subst hA; simp at h2; omega
      refine ⟨⟨(j + 1, e + 1), h3, by show e + 1 = c + ((j + 1 : Nat) : Int); omega⟩, by simp only; omega, ?_⟩
      show Ent _ _ (⟨envOf 82 [(0, .dv (.int .i64 1)), (1, .dv (.int .i64 ring)), (2, .dv (.int .i64 words)), (7, .dv (.int .i64 (e + 1))), (9, .dv (.int .i64 (A.ofN (j + 1)))), (25, .dv (.int .i64 1))], []⟩ : St Ob)
      rw [← hadd e 1 (by omega) (by omega) (by omega) (by omega), show A.ofN (j + 1) = A.bin .add .i64 (A.ofN j) 1 by subst hA; simp; rw [w64_in (by omega)]]
      exact Ent.env (by cbv; all_goals trivial)
    have h3 : j = words.toNat := by subst hA; simp at h2; omega
    subst h3
    cbv
    have e1 : A.bin .add .i64 (A.bin .add .i64 (A.bin .add .i64 e 3) 3) 1 = e + 7 := by
      rw [hadd e 3 (by omega) (by omega) (by omega) (by omega), hadd (e + 3) 3 (by omega) (by omega) (by omega) (by omega), hadd (e + 3 + 3) 1 (by omega) (by omega) (by omega) (by omega)]; omega
    subst hQ hA
    refine ⟨⟨_, ?_, rfl⟩, rfl⟩
    refine e1.trans ?_
    rw [mostI, if_neg (by omega), if_pos rfl]; omega
  have k1 : kind ≠ 1 := by subst hA; simpa using h1
  cbv
  refine bc_split (fun h1 => ?_) (fun h1 => ?_)
  · obtain rfl : kind = 2 := by subst hA; simpa using h1
    cbv
    refine loop_at mixed hP hA (fun j : { p : Nat × Int // p.1 ≤ words.toNat ∧ p.2 = 5 + p.1 } => ⟨envOf 82 [(0, .dv (.int .i64 2)), (1, .dv (.int .i64 ring)), (2, .dv (.int .i64 words)), (7, .dv (.int .i64 j.1.2)), (10, .dv (.int .i64 (A.ofN j.1.1))), (25, .dv (.int .i64 2))], []⟩) (fun i => words.toNat - i.1.1) ⟨(0, 5), Nat.zero_le _, by simp⟩ (Ent.env (by cbv; subst hA; simp [w64])) ?_
    rintro ⟨⟨j, e⟩, hj, he⟩
    have hj : j ≤ words.toNat := hj
    have he : e.toNat = 5 + j ∧ 0 ≤ e := by have he : e = 5 + (j : Int) := he; omega
    cbv
    refine bc_split (fun h2 => ?_) (fun h2 => ?_)
    · cbv
      have h3 : j < words.toNat := by subst hA; simp at h2; omega
      refine ⟨⟨(j + 1, e + 1), h3, by show e + 1 = 5 + ((j + 1 : Nat) : Int); omega⟩, by simp only; omega, ?_⟩
      show Ent _ _ (⟨envOf 82 [(0, .dv (.int .i64 2)), (1, .dv (.int .i64 ring)), (2, .dv (.int .i64 words)), (7, .dv (.int .i64 (e + 1))), (10, .dv (.int .i64 (A.ofN (j + 1)))), (25, .dv (.int .i64 2))], []⟩ : St Ob)
      rw [← hadd e 1 (by omega) (by omega) (by omega) (by omega), show A.ofN (j + 1) = A.bin .add .i64 (A.ofN j) 1 by subst hA; simp; rw [w64_in (by omega)]]
      exact Ent.env (by cbv; all_goals trivial)
    have h3 : j = words.toNat := by subst hA; simp at h2; omega
    subst h3
    cbv
    have e1 : A.bin .add .i64 e 1 = e + 1 := hadd e 1 (by omega) (by omega) (by omega) (by omega)
    subst hQ hA
    refine ⟨⟨_, ?_, rfl⟩, rfl⟩
    refine e1.trans ?_
    rw [mostI, if_neg (by omega), if_neg (by omega), if_pos rfl]; omega
  have k2 : kind ≠ 2 := by subst hA; simpa using h1
  cbv
  refine bc_split (fun h1 => ?_) (fun h1 => ?_)
  · obtain rfl : kind = 3 := by subst hA; simpa using h1
    cbv
    subst hQ hA
    refine ⟨⟨_, ?_, rfl⟩, rfl⟩
    rw [mostI, if_neg (by omega), if_neg (by omega), if_neg (by omega), if_pos rfl]; rfl
  have k3 : kind ≠ 3 := by subst hA; simpa using h1
  cbv
  subst hQ hA
  refine ⟨⟨0, ?_, rfl⟩, rfl⟩
  rw [mostI, if_neg (by omega), if_neg k1, if_neg k2, if_neg k3]

theorem ok_Rest (c r b : Int) : CallOK (O := Ob) PR n_bound_Rest [.agg [.dv (.int .i64 c), .dv (.int .i64 r), .dv (.int .i64 b)]] [] fun x m => (∃ v, v = std.bin .mul .i64 c (std.bin .add .i64 (std.bin .add .i64 r 18) b) ∧ x = .dv (.int .i64 v)) ∧ m = [] := by
  refine CallOK.drop (fn_walk mixed fn_bound_Rest fun A P hA hP Q hQ => ?_)
  cbv
  subst hQ hA
  exact ⟨.dv (.int .i64 (std.bin .mul .i64 c (std.bin .add .i64 (std.bin .add .i64 r 18) b))), rfl, _, rfl, rfl⟩

theorem ok_alive : CallOK (O := Ob) PR n_law24_alive [] [] fun r m => r = .dv (.bool true) ∧ m = [] := by
  refine fn_walk mixed fn_law24_alive fun A P hA hP Q hQ => ?_
  cbv
  refine call_pure hP code_bound_Most (ok_Most 1 2 3) (by cbv; all_goals trivial) ?_
  rintro r ⟨v, hv, rfl⟩
  have hv : v = 15 := hv
  cbv
  subst hQ hA
  refine ⟨congrArg (fun z => SV.dv (DV.bool z)) (?_ : std.cmp .eql v 15 = true), rfl⟩
  simp [hv]

end Go.Proofs.YtophlodlencgiaaDoor
