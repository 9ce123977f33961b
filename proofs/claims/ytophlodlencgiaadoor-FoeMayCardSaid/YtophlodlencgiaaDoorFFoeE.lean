/-
  Walks: what stands at an address; rings.
-/
import Derived.Test.YtophlodlencgiaaDoorFFoeD
namespace Go.Proofs.YtophlodlencgiaaDoor
open Go.V

theorem ok_guess (addr : Int) (hlo : -9223372036854775808 ≤ addr ∧ addr ≤ 9223372036854775807) : CallOK (O := Ob) PR n_site_guess [.dv (.int .i64 addr)] [] fun x m =>
    (∃ k i g, ((addr < 65536 → k = 1) ∧ (65536 ≤ addr → addr < 65792 → k = 2 ∧ i = (addr - 65536) / 16 ∧ g = addr % 16) ∧ (65792 ≤ addr → k ≠ 2)) ∧ x = .agg [.dv (.int .i64 k), .dv (.int .i64 i), .dv (.int .i64 g)]) ∧ m = [] := by
  refine CallOK.drop (fn_walk mixed fn_site_guess fun A P hA hP Q hQ => ?_)
  cbv
  refine bc_split (fun h1 => ?_) (fun h1 => ?_)
  · cbv
    have f1 : addr < 65536 := by subst hA; simpa using h1
    subst hQ hA
    exact ⟨.agg [.dv (.int .i64 _), .dv (.int .i64 _), .dv (.int .i64 _)], rfl, _, _, _, ⟨fun _ => rfl, by omega, by omega⟩, rfl⟩
  have f1 : ¬ addr < 65536 := by subst hA; simpa using h1
  cbv
  refine bc_split (fun h2 => ?_) (fun h2 => ?_)
  · cbv
    have f2 : addr < 65792 := by subst hA; simpa using h2
    refine ⟨by subst hA; show (16 : Int) ≠ 0; decide, ?_⟩
    cbv
    refine ⟨by subst hA; show (16 : Int) ≠ 0; decide, ?_⟩
    cbv
    have e1 : A.bin .quo .i64 (A.bin .sub .i64 addr 65536) 16 = (addr - 65536) / 16 := by
      subst hA; simp only [std_sub, std_quo]; rw [w64_in (n := addr - 65536) (by omega), Int.tdiv_eq_ediv_of_nonneg (by omega), w64_in (by omega)]
    have e2 : A.bin .rem .i64 addr 16 = addr % 16 := by
      subst hA; simp only [std_rem]; rw [Int.tmod_eq_emod_of_nonneg (by omega)]
    subst hQ hA
    exact ⟨.agg [.dv (.int .i64 _), .dv (.int .i64 _), .dv (.int .i64 _)], rfl, _, _, _, ⟨by omega, fun _ _ => ⟨rfl, e1, e2⟩, by omega⟩, rfl⟩
  have f2 : ¬ addr < 65792 := by subst hA; simpa using h2
  cbv
  refine bc_split (fun h3 => ?_) (fun h3 => ?_)
  · cbv
    subst hQ hA
    exact ⟨.agg [.dv (.int .i64 _), .dv (.int .i64 _), .dv (.int .i64 _)], rfl, _, _, _, ⟨by omega, by omega, fun _ => by decide⟩, rfl⟩
  · cbv
    subst hQ hA
    exact ⟨.agg [.dv (.int .i64 _), .dv (.int .i64 _), .dv (.int .i64 _)], rfl, _, _, _, ⟨by omega, by omega, fun _ => by decide⟩, rfl⟩

theorem ok_siteRight (c w : Int) (hc : 2 ≤ c ∧ c ≤ 8) (hw : 1 ≤ w ∧ w ≤ 65536) : CallOK (O := Ob) PR n_site_Right [.agg [.dv (.int .i64 c), .dv (.int .i64 w), .dv (.int .i64 1)]] [] fun x m => x = .dv (.bool true) ∧ m = [] := by
  refine CallOK.drop (fn_walk mixed fn_site_Right fun A P hA hP Q hQ => ?_)
  have e1 : A.bin .sub .i64 c 1 = c - 1 := by subst hA; simp only [std_sub]; rw [w64_in (by omega)]
  have e2 : A.bin .sub .i64 w 1 = w - 1 := by subst hA; simp only [std_sub]; rw [w64_in (by omega)]
  have e3 : A.bin .sub .i64 1 1 = 0 := by subst hA; simp only [std_sub]; rw [w64_in (by omega)]; rfl
  cbv
  refine call_pure hP code_site_below (ok_below (A.bin .sub .i64 c 1) 8) (by cbv; all_goals simp) ?_
  rintro _ ⟨v, hv, rfl⟩
  obtain rfl : v = true := hv.trans (by rw [e1]; exact decide_eq_true (by omega))
  cbv
  refine call_pure hP code_site_below (ok_below (A.bin .sub .i64 w 1) 65536) (by cbv; all_goals simp) ?_
  rintro _ ⟨v, hv, rfl⟩
  obtain rfl : v = true := hv.trans (by rw [e2]; exact decide_eq_true (by omega))
  cbv
  refine call_pure hP code_site_below (ok_below (A.bin .sub .i64 1 1) 16) (by cbv; all_goals simp) ?_
  rintro _ ⟨v, hv, rfl⟩
  obtain rfl : v = true := hv.trans (by rw [e3]; decide)
  cbv
  subst hQ hA
  exact ⟨.dv (.bool true), rfl, rfl⟩

set_option maxHeartbeats 4000000 in
theorem ok_Encode (c w k i g : Int) (hc : 2 ≤ c ∧ c ≤ 8) (hw : 1 ≤ w ∧ w ≤ 65536) : CallOK (O := Ob) PR n_site_Encode [.agg [.dv (.int .i64 c), .dv (.int .i64 w), .dv (.int .i64 1)], .agg [.dv (.int .i64 k), .dv (.int .i64 i), .dv (.int .i64 g)]] [] fun x m =>
    (∃ a ok, (k = 2 → ok = decide ((0 ≤ i ∧ i < c) ∧ 0 ≤ g ∧ g < 3)) ∧ x = .tup [.dv (.int .i64 a), .dv (.bool ok)]) ∧ m = [] := by
  refine CallOK.drop (fn_walk mixed fn_site_Encode fun A P hA hP Q hQ => ?_)
  cbv
  refine bc_split (fun h1 => ?_) (fun h1 => ?_)
  · have k1 : k = 1 := by subst hA; simpa using h1
    cbv
    refine bc_split (fun h2 => ?_) (fun h2 => ?_)
    · cbv
      refine call_pure hP code_site_below (ok_below g w) (by cbv; all_goals simp) ?_
      rintro _ ⟨ok, hok, rfl⟩
      cbv
      refine bc_split (fun z => ?_) (fun z => ?_)
      · have z' : ok = false := by subst hA; simpa [std] using z
        cbv
        subst hQ hA
        exact ⟨.tup [.dv (.int .i64 _), .dv (.bool false)], rfl, _, false, fun h => by omega, rfl⟩
      have z' : ok = true := by subst hA; simpa [std] using z
      cbv
      refine call_pure hP code_site_Right (ok_siteRight c w hc hw) (by cbv; all_goals simp) ?_
      rintro _ rfl
      cbv
      refine bc_false (by subst hA; simp [std]) ?_
      cbv
      subst hQ hA
      exact ⟨.tup [.dv (.int .i64 _), .dv (.bool true)], rfl, _, true, fun h => by omega, rfl⟩
    · cbv
      refine bc_true (by subst hA; simp [std]) ?_
      cbv
      subst hQ hA
      exact ⟨.tup [.dv (.int .i64 _), .dv (.bool false)], rfl, _, false, fun h => by omega, rfl⟩
  have k1 : k ≠ 1 := by subst hA; simpa using h1
  cbv
  refine bc_split (fun h2 => ?_) (fun h2 => ?_)
  · have k2 : k = 2 := by subst hA; simpa using h2
    cbv
    refine call_pure hP code_site_below (ok_below i c) (by cbv; all_goals simp) ?_
    rintro _ ⟨v, hv, rfl⟩
    cbv
    refine bc_split (fun h3 => ?_) (fun h3 => ?_)
    · cbv
      refine call_pure hP code_site_below (ok_below g 3) (by cbv; all_goals simp) ?_
      rintro _ ⟨ok, hok, rfl⟩
      have hall : ok = decide ((0 ≤ i ∧ i < c) ∧ 0 ≤ g ∧ g < 3) := by
        rw [hok]
        have : 0 ≤ i ∧ i < c := by rw [h3] at hv; simpa using hv.symm
        simp [this]
      clear hok
      cbv
      refine bc_split (fun z => ?_) (fun z => ?_)
      · have z' : ok = false := by subst hA; simpa [std] using z
        cbv
        subst hQ hA
        exact ⟨.tup [.dv (.int .i64 _), .dv (.bool false)], rfl, _, false, fun _ => z'.symm.trans hall, rfl⟩
      have z' : ok = true := by subst hA; simpa [std] using z
      cbv
      refine call_pure hP code_site_Right (ok_siteRight c w hc hw) (by cbv; all_goals simp) ?_
      rintro _ rfl
      cbv
      refine bc_false (by subst hA; simp [std]) ?_
      cbv
      subst hQ hA
      exact ⟨.tup [.dv (.int .i64 _), .dv (.bool true)], rfl, _, true, fun _ => z'.symm.trans hall, rfl⟩
    · have hall : false = decide ((0 ≤ i ∧ i < c) ∧ 0 ≤ g ∧ g < 3) := by
        have : ¬ (0 ≤ i ∧ i < c) := by rw [h3] at hv; simpa using hv.symm
        symm
        rw [decide_eq_false_iff_not]
        exact fun h => this h.1
      cbv
      refine bc_true (by subst hA; simp [std]) ?_
      cbv
      subst hQ hA
      exact ⟨.tup [.dv (.int .i64 _), .dv (.bool false)], rfl, _, false, fun _ => hall, rfl⟩
  have k2 : k ≠ 2 := by subst hA; simpa using h2
  cbv
  refine bc_split (fun h3 => ?_) (fun h3 => ?_)
  · cbv
    refine call_pure hP code_site_below (ok_below i 1) (by cbv; all_goals simp) ?_
    rintro _ ⟨v, hv, rfl⟩
    cbv
    refine bc_split (fun h4 => ?_) (fun h4 => ?_)
    · cbv
      refine bc_split (fun z => ?_) (fun z => ?_)
      · cbv
        subst hQ hA
        exact ⟨.tup [.dv (.int .i64 _), .dv (.bool false)], rfl, _, false, fun h => by omega, rfl⟩
      cbv
      refine call_pure hP code_site_Right (ok_siteRight c w hc hw) (by cbv; all_goals simp) ?_
      rintro _ rfl
      cbv
      refine bc_false (by subst hA; simp [std]) ?_
      cbv
      subst hQ hA
      exact ⟨.tup [.dv (.int .i64 _), .dv (.bool true)], rfl, _, true, fun h => by omega, rfl⟩
    · cbv
      refine bc_true (by subst hA; simp [std]) ?_
      cbv
      subst hQ hA
      exact ⟨.tup [.dv (.int .i64 _), .dv (.bool false)], rfl, _, false, fun h => by omega, rfl⟩
  cbv
  refine bc_split (fun h4 => ?_) (fun h4 => ?_)
  · cbv
    refine call_pure hP code_site_below (ok_below i c) (by cbv; all_goals simp) ?_
    rintro _ ⟨v, hv, rfl⟩
    cbv
    refine bc_split (fun h5 => ?_) (fun h5 => ?_)
    · cbv
      refine bc_split (fun z => ?_) (fun z => ?_)
      · cbv
        subst hQ hA
        exact ⟨.tup [.dv (.int .i64 _), .dv (.bool false)], rfl, _, false, fun h => by omega, rfl⟩
      cbv
      refine call_pure hP code_site_Right (ok_siteRight c w hc hw) (by cbv; all_goals simp) ?_
      rintro _ rfl
      cbv
      refine bc_false (by subst hA; simp [std]) ?_
      cbv
      subst hQ hA
      exact ⟨.tup [.dv (.int .i64 _), .dv (.bool true)], rfl, _, true, fun h => by omega, rfl⟩
    · cbv
      refine bc_true (by subst hA; simp [std]) ?_
      cbv
      subst hQ hA
      exact ⟨.tup [.dv (.int .i64 _), .dv (.bool false)], rfl, _, false, fun h => by omega, rfl⟩
  cbv
  refine bc_true (by subst hA; simp [std]) ?_
  cbv
  subst hQ hA
  exact ⟨.tup [.dv (.int .i64 _), .dv (.bool false)], rfl, _, false, fun h => by omega, rfl⟩

def ringsI (c addr : Int) : Bool := decide (65536 ≤ addr ∧ addr < 65792 ∧ addr % 16 = 2 ∧ (addr - 65536) / 16 < c)

theorem ok_Decode (c w addr : Int) (hc : 2 ≤ c ∧ c ≤ 8) (hw : 1 ≤ w ∧ w ≤ 65536) (hlo : -9223372036854775808 ≤ addr ∧ addr ≤ 9223372036854775807) : CallOK (O := Ob) PR n_site_Decode [.agg [.dv (.int .i64 c), .dv (.int .i64 w), .dv (.int .i64 1)], .dv (.int .i64 addr)] [] fun x m =>
    (∃ k i g ok, (ok = true ∧ k = 2 ∧ g = 2 ↔ ringsI c addr = true) ∧ x = .tup [.agg [.dv (.int .i64 k), .dv (.int .i64 i), .dv (.int .i64 g)], .dv (.bool ok)]) ∧ m = [] := by
  refine CallOK.drop (fn_walk mixed fn_site_Decode fun A P hA hP Q hQ => ?_)
  cbv
  refine call_pure hP code_site_guess (ok_guess addr hlo) (by cbv; all_goals simp) ?_
  rintro _ ⟨k, i, g, ⟨g1, g2, g3⟩, rfl⟩
  cbv
  refine call_pure hP code_site_Encode (ok_Encode c w k i g hc hw) (by cbv; all_goals simp) ?_
  rintro _ ⟨a, ok, hok, rfl⟩
  have hall : ok = true ∧ k = 2 ∧ g = 2 ↔ ringsI c addr = true := by
    simp only [ringsI, decide_eq_true_eq]
    constructor
    · rintro ⟨h1, h2, h3⟩
      have hlo2 : 65536 ≤ addr := by
        rcases Int.lt_or_le addr 65536 with h | h
        · have := g1 h; omega
        · exact h
      have hhi : addr < 65792 := by
        rcases Int.lt_or_le addr 65792 with h | h
        · exact h
        · exact (g3 h h2).elim
      obtain ⟨_, e1, e2⟩ := g2 hlo2 hhi
      have := hok h2
      rw [h1] at this
      have := of_decide_eq_true this.symm
      omega
    · rintro ⟨h1, h2, h3, h4⟩
      obtain ⟨e0, e1, e2⟩ := g2 h1 h2
      refine ⟨(hok e0).trans (decide_eq_true ?_), e0, by omega⟩
      omega
  cbv
  refine bc_split (fun h1 => ?_) (fun h1 => ?_)
  · have f1 : ok = false := by subst hA; simpa [std] using h1
    cbv
    subst hQ hA
    exact ⟨.tup [.agg [.dv (.int .i64 _), .dv (.int .i64 _), .dv (.int .i64 _)], .dv (.bool false)], rfl, _, _, _, false, ⟨fun h => by simp at h, fun h => by have := hall.2 h; simp [f1] at this⟩, rfl⟩
  · have f1 : ok = true := by subst hA; simpa [std] using h1
    cbv
    subst hQ hA
    exact ⟨.tup [.agg [.dv (.int .i64 _), .dv (.int .i64 _), .dv (.int .i64 _)], .dv (.bool true)], rfl, _, _, _, true, ⟨fun h => hall.1 ⟨f1, h.2⟩, fun h => ⟨rfl, (hall.2 h).2⟩⟩, rfl⟩

theorem ok_rings (c r b addr : Int) (hr : rightC c r b = true) (hlo : -9223372036854775808 ≤ addr ∧ addr ≤ 9223372036854775807) : CallOK (O := Ob) PR n_foe_rings [.agg [.dv (.int .i64 c), .dv (.int .i64 r), .dv (.int .i64 b)], .dv (.int .i64 addr)] [] fun x m =>
    (∃ v, v = ringsI c addr ∧ x = .dv (.bool v)) ∧ m = [] := by
  refine CallOK.drop (fn_walk mixed fn_foe_rings fun A P hA hP Q hQ => ?_)
  obtain ⟨v1, v2, _⟩ := right_vals hr
  have hw : 1 ≤ wordsI c r b ∧ wordsI c r b ≤ 65536 := by
    have := words_bounds v1 v2
    rw [wordsI, if_pos hr]; omega
  cbv
  refine And.intro ?_ ?_
  · refine call_pure hP code_plot_Words (ok_Words c r b) (by cbv; all_goals simp) ?_
    rintro _ ⟨w, hww, rfl⟩
    rw [← hww] at hw
    cbv
    refine And.intro ?_ ?_
    · refine call_pure hP code_site_Decode (ok_Decode c w addr v1 hw hlo) (by cbv; all_goals simp) ?_
      rintro _ ⟨k, i, g, ok, hall, rfl⟩
      cbv
      refine bc_split (fun z1 => ?_) (fun z1 => ?_)
      · cbv
        refine bc_split (fun z2 => ?_) (fun z2 => ?_)
        · have z3 : k = 2 := by subst hA; simpa using z2
          cbv
          subst hQ hA
          refine ⟨.dv (.bool (std.cmp .eql g 2)), rfl, _, ?_, rfl⟩
          rw [Bool.eq_iff_iff, ← hall]; simp [z1, z3]
        · have z3 : ¬ k = 2 := by subst hA; simpa using z2
          cbv
          subst hQ hA
          refine ⟨.dv (.bool false), rfl, _, ?_, rfl⟩
          symm; rw [← Bool.not_eq_true, ← hall]; simp [z3]
      · cbv
        subst hQ hA
        refine ⟨.dv (.bool false), rfl, _, ?_, rfl⟩
        symm; rw [← Bool.not_eq_true, ← hall]; simp [z1]
    · refine call_pure hP code_site_Decode (ok_Decode c w addr v1 hw hlo) (by cbv; all_goals simp) ?_
      rintro _ ⟨k, i, g, ok, hall, rfl⟩
      cbv
      refine bc_split (fun z1 => ?_) (fun z1 => ?_)
      · cbv
        refine bc_split (fun z2 => ?_) (fun z2 => ?_)
        · have z3 : k = 2 := by subst hA; simpa using z2
          cbv
          subst hQ hA
          refine ⟨.dv (.bool (std.cmp .eql g 2)), rfl, _, ?_, rfl⟩
          rw [Bool.eq_iff_iff, ← hall]; simp [z1, z3]
        · have z3 : ¬ k = 2 := by subst hA; simpa using z2
          cbv
          subst hQ hA
          refine ⟨.dv (.bool false), rfl, _, ?_, rfl⟩
          symm; rw [← Bool.not_eq_true, ← hall]; simp [z3]
      · cbv
        subst hQ hA
        refine ⟨.dv (.bool false), rfl, _, ?_, rfl⟩
        symm; rw [← Bool.not_eq_true, ← hall]; simp [z1]
  · refine call_pure hP code_plot_Words (ok_Words c r b) (by cbv; all_goals simp) ?_
    rintro _ ⟨w, hww, rfl⟩
    rw [← hww] at hw
    cbv
    refine call_pure hP code_site_Decode (ok_Decode c w addr v1 hw hlo) (by cbv; all_goals simp) ?_
    rintro _ ⟨k, i, g, ok, hall, rfl⟩
    cbv
    refine bc_split (fun z1 => ?_) (fun z1 => ?_)
    · cbv
      refine bc_split (fun z2 => ?_) (fun z2 => ?_)
      · have z3 : k = 2 := by subst hA; simpa using z2
        cbv
        subst hQ hA
        refine ⟨.dv (.bool (std.cmp .eql g 2)), rfl, _, ?_, rfl⟩
        rw [Bool.eq_iff_iff, ← hall]; simp [z1, z3]
      · have z3 : ¬ k = 2 := by subst hA; simpa using z2
        cbv
        subst hQ hA
        refine ⟨.dv (.bool false), rfl, _, ?_, rfl⟩
        symm; rw [← Bool.not_eq_true, ← hall]; simp [z3]
    · cbv
      subst hQ hA
      refine ⟨.dv (.bool false), rfl, _, ?_, rfl⟩
      symm; rw [← Bool.not_eq_true, ← hall]; simp [z1]

end Go.Proofs.YtophlodlencgiaaDoor
