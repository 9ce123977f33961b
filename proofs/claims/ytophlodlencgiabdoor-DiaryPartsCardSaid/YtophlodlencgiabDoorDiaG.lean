/-
  Each entry of a right diary stands in one of the channels, once.
-/
import Derived.Test.YtophlodlencgiabDoorDiaF
namespace Go.Proofs.YtophlodlencgiabDoor
open Go.V
set_option linter.unusedVariables false
set_option linter.unusedSimpArgs false
set_option maxRecDepth 100000
set_option maxHeartbeats 8000000

def sumN (f : Nat → Nat) : Nat → Nat
  | 0 => 0
  | k + 1 => sumN f k + f k

theorem sumN_add (f g : Nat → Nat) : ∀ k, sumN (fun x => f x + g x) k = sumN f k + sumN g k
  | 0 => rfl
  | k + 1 => by simp only [sumN, sumN_add f g k]; omega
theorem sumN_zero : ∀ k, sumN (fun _ => 0) k = 0
  | 0 => rfl
  | k + 1 => by simp only [sumN, sumN_zero k]
theorem sumN_one (c v : Nat) : ∀ k, sumN (fun x => if x = c then v else 0) k = if c < k then v else 0
  | 0 => by simp [sumN]
  | k + 1 => by
    simp only [sumN, sumN_one c v k]
    by_cases h : k = c
    · subst h; simp
    · rw [if_neg h]
      by_cases h' : c < k
      · rw [if_pos h', if_pos (by omega), Nat.add_zero]
      · rw [if_neg h', if_neg (by omega)]
theorem sumN_le {f : Nat → Nat} {m : Nat} (h : ∀ x, f x ≤ m) : ∀ k, sumN f k ≤ k * m
  | 0 => by simp [sumN]
  | k + 1 => by have := sumN_le h k; have := h k; simp only [sumN, Nat.add_mul]; omega
theorem sumN_congr {f g : Nat → Nat} (h : ∀ x, f x = g x) (k : Nat) : sumN f k = sumN g k := by rw [show f = g from funext h]

theorem pick_step (p : Nat → Bool) (i : Nat) : (pick p (i + 1)).length = (pick p i).length + if p i = true then 1 else 0 := by
  rw [pick]; split <;> simp

theorem pick_lt_get (p : Nat → Bool) (n : Nat) {k i : Nat} (hk : k < i) (hi : i < (pick p n).length) : (pick p n).getD k 0 < (pick p n).getD i 0 := by
  have inv : ∀ n j, j < (pick p n).length → (pick p ((pick p n).getD j 0)).length = j := by
    intro n
    induction n with
    | zero => intro j h; simp [pick] at h
    | succ n ih =>
      intro j h
      by_cases hp : p n = true
      · by_cases hj : j < (pick p n).length
        · rw [pick_at p (Nat.le_succ n) hj]; exact ih j hj
        · rw [pick_step, if_pos hp] at h
          obtain rfl : j = (pick p n).length := by omega
          rw [pick_next p (Nat.lt_succ_self n) hp]
      · rw [pick_step, if_neg hp] at h
        have e : pick p (n + 1) = pick p n := by rw [pick, if_neg hp]
        rw [e]; exact ih j (by omega)
  have h1 := inv n k (by omega)
  have h2 := inv n i hi
  rcases Nat.lt_or_ge ((pick p n).getD k 0) ((pick p n).getD i 0) with h | h
  · exact h
  · have := pick_mono p h
    omega

theorem pick_none (p : Nat → Bool) : ∀ n, (∀ i, i < n → p i = false) → (pick p n).length = 0
  | 0, _ => rfl
  | n + 1, h => by rw [pick_step, if_neg (by rw [h n (Nat.lt_succ_self n)]; simp), pick_none p n fun i hi => h i (by omega)]

section
variable {n : Nat} {G : Nat → Nat → DV} (S : Ents n G)

theorem Ents.sub_right (h : S.right) (p : Nat → Bool) : (S.sub p).right := by
  intro i hi
  obtain ⟨h1, h2⟩ := h _ (pick_get_lt p n i hi)
  exact ⟨h1, fun k hk hc => h2 _ (pick_lt_get p n hk hi) hc⟩

theorem Ents.parts (h : ∀ i, i < n → S.ok i) : ∀ N, N ≤ n → sumN (fun a => sumN (fun b => (pick (S.isS a b) N).length + (pick (S.isT a b) N).length) 8) 8 = N
  | 0, _ => by simp [pick, sumN]
  | N + 1, hN => by
    have ih := Ents.parts h N (by omega)
    have ho := (h N (by omega)).1
    unfold okH at ho
    obtain ⟨u, v, hu, hv, e⟩ : ∃ u v : Nat, u < 8 ∧ v < 8 ∧ ∀ a b : Nat, ((if S.isS a b N = true then 1 else 0) + (if S.isT a b N = true then 1 else 0) : Nat) = if a = u then (if b = v then 1 else 0) else 0 := by
      by_cases hk : S.kd N = 1
      · refine ⟨(S.co N).toNat, (S.pe N).toNat, by omega, by omega, fun a b => ?_⟩
        have e2 : S.isT a b N = false := by simp [Ents.isT]; omega
        rw [e2]
        have e1 : S.isS a b N = true ↔ a = (S.co N).toNat ∧ b = (S.pe N).toNat := by simp [Ents.isS]; omega
        simp only [e1]
        by_cases h1 : a = (S.co N).toNat <;> by_cases h2 : b = (S.pe N).toNat <;> simp [h1, h2]
      · refine ⟨(S.pe N).toNat, (S.co N).toNat, by omega, by omega, fun a b => ?_⟩
        have e2 : S.isS a b N = false := by simp [Ents.isS]; omega
        rw [e2]
        have e1 : S.isT a b N = true ↔ a = (S.pe N).toNat ∧ b = (S.co N).toNat := by simp [Ents.isT]; omega
        simp only [e1]
        by_cases h1 : a = (S.pe N).toNat <;> by_cases h2 : b = (S.co N).toNat <;> simp [h1, h2]
    have e3 : ∀ a : Nat, sumN (fun b => (pick (S.isS a b) (N + 1)).length + (pick (S.isT a b) (N + 1)).length) 8 = sumN (fun b => (pick (S.isS a b) N).length + (pick (S.isT a b) N).length) 8 + (if a = u then 1 else 0) := by
      intro a
      rw [← show sumN (fun b => if a = u then (if b = v then 1 else 0) else 0) 8 = (if a = u then 1 else 0) by
        by_cases ha : a = u
        · simp only [if_pos ha]; rw [sumN_one, if_pos hv]
        · simp only [if_neg ha]; rw [sumN_zero], ← sumN_add]
      refine sumN_congr (fun b => ?_) 8
      rw [pick_step, pick_step, ← e a b]
      omega
    rw [sumN_congr e3, sumN_add, ih, sumN_one, if_pos hu]

theorem Ents.no_own (h : ∀ i, i < n → S.ok i) (a : Nat) : (pick (S.isS a a) n).length = 0 ∧ (pick (S.isT a a) n).length = 0 := by
  refine ⟨pick_none _ n fun i hi => ?_, pick_none _ n fun i hi => ?_⟩
  · have := (h i hi).1; unfold okH at this; simp [Ents.isS]; omega
  · have := (h i hi).1; unfold okH at this; simp [Ents.isT]; omega
end

theorem ok_Right_true {n : Nat} {G : Nat → Nat → DV} (S : Ents n G) (h : S.right) : CallOK (O := Ob) PR n_diary_Right [.dv (.seq n 8 G)] [] fun r m => r = .dv (.bool true) ∧ m = [] := by
  refine (ok_Right S).mono ?_
  rintro r m ⟨⟨v, hv, rfl⟩, hm⟩
  rw [hv.2 h]
  exact ⟨rfl, hm⟩

theorem ok_DiaryParts {n : Nat} {G : Nat → Nat → DV} (S : Ents n G) : CallOK (O := Ob) PR n_law19_DiaryParts [.dv (.seq n 8 G)] [] fun r m => r = .dv (.bool true) ∧ m = [] := by
  obtain ⟨fw, hfw⟩ : ∃ p : Prop, p ↔ (¬ (60 : Int) < (n : Int) ∧ ∀ i, i < n → S.m i ≤ 100) := ⟨_, Iff.rfl⟩
  have hfew : CallOK (O := Ob) PR n_law19_Few [.dv (.seq n 8 G), .dv (.int .i64 60)] [] fun r m => (∃ v, (v = true ↔ fw) ∧ r = .dv (.bool v)) ∧ m = [] := (okR_Few S 60).mono fun r m h => by simpa only [hfw] using h
  by_cases hf : fw
  · have hf' := hfw.1 hf
    have hfew : CallOK (O := Ob) PR n_law19_Few [.dv (.seq n 8 G), .dv (.int .i64 60)] [] fun r m => r = .dv (.bool true) ∧ m = [] := hfew.mono fun r m ⟨⟨v, hv, e⟩, hm⟩ => ⟨by rw [e, hv.2 hf], hm⟩
    by_cases hrt : S.right
    · have hr := ok_Right_true S hrt
      have hok : ∀ i, i < n → S.ok i := fun i hi => (hrt i hi).1
      have hn : n ≤ 60 := by omega
      have hof : ∀ a b : Nat, CallOK (O := Ob) PR n_diary_Of [.dv (.seq n 8 G), .dv (.int .i64 a), .dv (.int .i64 b)] [] _ := fun a b => ok_Of S (by omega) (fun i hi => by have := hf'.2 i hi; omega) a b
      have hpt := S.parts hok n (Nat.le_refl n)
      have hown := S.no_own hok
      have hrs : ∀ a b : Nat, CallOK (O := Ob) PR n_diary_Right [.dv (.seq (pick (S.isS a b) n).length 8 (Gp G (S.isS a b) n))] [] fun r m => r = .dv (.bool true) ∧ m = [] := fun a b => ok_Right_true (S.sub _) (S.sub_right hrt _)
      have hrt' : ∀ a b : Nat, CallOK (O := Ob) PR n_diary_Right [.dv (.seq (pick (S.isT a b) n).length 8 (Gp G (S.isT a b) n))] [] fun r m => r = .dv (.bool true) ∧ m = [] := fun a b => ok_Right_true (S.sub _) (S.sub_right hrt _)
      obtain ⟨L1, hL1⟩ : ∃ L : Nat → Nat → Nat, ∀ a b : Nat, (pick (S.isS a b) n).length = L a b := ⟨fun a b => _, fun _ _ => rfl⟩
      obtain ⟨L2, hL2⟩ : ∃ L : Nat → Nat → Nat, ∀ a b : Nat, (pick (S.isT a b) n).length = L a b := ⟨fun a b => _, fun _ _ => rfl⟩
      obtain ⟨G1, hG1⟩ : ∃ W : Nat → Nat → Nat → Nat → DV, ∀ a b : Nat, Gp G (S.isS a b) n = W a b := ⟨fun a b => _, fun _ _ => rfl⟩
      obtain ⟨G2, hG2⟩ : ∃ W : Nat → Nat → Nat → Nat → DV, ∀ a b : Nat, Gp G (S.isT a b) n = W a b := ⟨fun a b => _, fun _ _ => rfl⟩
      have hb1 : ∀ a b, L1 a b ≤ 60 := fun a b => by rw [← hL1]; exact Nat.le_trans (pick_len _ n) hn
      have hb2 : ∀ a b, L2 a b ≤ 60 := fun a b => by rw [← hL2]; exact Nat.le_trans (pick_len _ n) hn
      simp only [hL1, hL2, hG1, hG2] at hof hpt hown hrs hrt'
      obtain ⟨T, I, hT0, hI0, hI, hT, hIb, hT8⟩ : ∃ (T : Nat → Nat) (I : Nat → Nat → Nat), T 0 = 0 ∧ (∀ a, I a 0 = T a) ∧ (∀ a b, I a (b + 1) = I a b + (L1 a b + L2 a b)) ∧ (∀ a, T (a + 1) = I a 8) ∧ (∀ a b, a ≤ 8 → b ≤ 8 → I a b ≤ 100000) ∧ T 8 = n := by
        have hbb : ∀ a, ∀ b, L1 a b + L2 a b ≤ 120 := fun a b => by have := hb1 a b; have := hb2 a b; omega
        refine ⟨sumN (fun a => sumN (fun b => L1 a b + L2 a b) 8), fun a b => sumN (fun a => sumN (fun b => L1 a b + L2 a b) 8) a + sumN (fun b => L1 a b + L2 a b) b, rfl, fun _ => rfl, fun a b => by simp only [sumN]; omega, fun a => rfl, fun a b ha hb => ?_, hpt⟩
        have h1 := sumN_le (f := fun a => sumN (fun b => L1 a b + L2 a b) 8) (m := 960) (fun a => sumN_le (hbb a) 8) a
        have h2 := sumN_le (hbb a) b
        show _ + _ ≤ 100000
        omega
      clear hL1 hL2 hG1 hG2 hpt hfw
      refine fn_walkv mixed fn_law19_DiaryParts (Ent.refl _ _) fun bin cmp un conv bnot beq band sel isel ofN toN inb nz nneg lt le room' slb add sub sbin scmp slen sget ssub addk pc pb pi pf ps mkok min_ ig aeq P hP hA hF Q hQ => ?_
      cbv
      repeat' first
        | (refine Chk.mk trivial ?_; cbv)
        | (refine bc_true (by first | assumption | (simp (disch := omega) only [hF, natc, Int.ofNat_eq_natCast, w64_in, decide_eq_true_eq, decide_eq_false_iff_not, Int.toNat_natCast, Bool.not_eq_true', Bool.not_eq_false', not_true_eq_false, not_false_eq_true, Int.not_lt, Int.not_le, Bool.and_eq_true, Bool.or_eq_true, Int.ofNat_lt, Int.ofNat_le, Int.natCast_nonneg, Int.toNat_zero, Int.toNat_one, Classical.not_not, beq_self_eq_true, true_and, and_true]; first | done | assumption | omega | (simp only [natc] at *; omega))) ?_; cbv)
        | (refine bc_false (by first | assumption | (simp (disch := omega) only [hF, natc, Int.ofNat_eq_natCast, w64_in, decide_eq_true_eq, decide_eq_false_iff_not, Int.toNat_natCast, Bool.not_eq_true', Bool.not_eq_false', not_true_eq_false, not_false_eq_true, Int.not_lt, Int.not_le, Bool.and_eq_true, Bool.or_eq_true, Int.ofNat_lt, Int.ofNat_le, Int.natCast_nonneg, Int.toNat_zero, Int.toNat_one, Classical.not_not, beq_self_eq_true, true_and, and_true]; first | done | assumption | omega | (simp only [natc] at *; omega))) ?_; cbv)
        | (refine bc_split (fun h => ?_) (fun h => ?_) <;> (try simp (disch := omega) only [hF, natc, Int.ofNat_eq_natCast, w64_in, decide_eq_true_eq, decide_eq_false_iff_not, Int.toNat_natCast, Bool.not_eq_true', Bool.not_eq_false', not_true_eq_false, not_false_eq_true, Int.not_lt, Int.not_le, Bool.and_eq_true, Bool.or_eq_true, Int.ofNat_lt, Int.ofNat_le, Int.natCast_nonneg, Int.toNat_zero, Int.toNat_one, Classical.not_not, beq_self_eq_true, true_and, and_true] at h) <;> cbv)
        | (refine IdxVC.mk (by simp (disch := omega) only [hF, natc, Int.ofNat_eq_natCast, w64_in, decide_eq_true_eq, decide_eq_false_iff_not, Int.toNat_natCast, Bool.not_eq_true', Bool.not_eq_false', not_true_eq_false, not_false_eq_true, Int.not_lt, Int.not_le, Bool.and_eq_true, Bool.or_eq_true, Int.ofNat_lt, Int.ofNat_le, Int.natCast_nonneg, Int.toNat_zero, Int.toNat_one, Classical.not_not, beq_self_eq_true, true_and, and_true]; first | done | omega | (simp only [natc] at *; omega)) (fun kx hk hk2 => ?_); simp (disch := omega) only [hF, natc, Int.ofNat_eq_natCast, w64_in, decide_eq_true_eq, decide_eq_false_iff_not, Int.toNat_natCast, Bool.not_eq_true', Bool.not_eq_false', not_true_eq_false, not_false_eq_true, Int.not_lt, Int.not_le, Bool.and_eq_true, Bool.or_eq_true, Int.ofNat_lt, Int.ofNat_le, Int.natCast_nonneg, Int.toNat_zero, Int.toNat_one, Classical.not_not, beq_self_eq_true, true_and, and_true] at hk; (try obtain rfl : kx = 0 := hk); cbv)
        | (refine Chk.mk (by simp (disch := omega) only [maxN, hF, natc, Int.ofNat_eq_natCast, w64_in, decide_eq_true_eq, decide_eq_false_iff_not, Int.toNat_natCast, Bool.not_eq_true', Bool.not_eq_false', not_true_eq_false, not_false_eq_true, Int.not_lt, Int.not_le, Bool.and_eq_true, Bool.or_eq_true, Int.ofNat_lt, Int.ofNat_le, Int.natCast_nonneg, Int.toNat_zero, Int.toNat_one, Classical.not_not, beq_self_eq_true, true_and, and_true]; first | done | assumption | omega | (simp only [natc] at *; omega)) ?_; cbv)
        | (intro (hmx : _ ≤ maxN); replace hmx : _ ≤ 17592186044416 := hmx; cbv)
        | (intro _; cbv)
        | (refine call_pure hP code_law19_Few (hfew) ?_ ?_; (focus (cbv; (try simp); done)); rintro _ rfl; cbv)
        | (refine call_pure hP code_law19_alive (ok_alive) ?_ ?_; (focus (cbv; (try simp); done)); rintro _ rfl; cbv)
        | (refine call_pure hP code_diary_Right (hr) ?_ ?_; (focus (cbv; (try simp); done)); rintro _ rfl; cbv)
      have hof : ∀ a b, CallOK (O := Ob) PR n_diary_Of [.dv (.seq n 8 G), .dv (.int .i64 (ofN a)), .dv (.int .i64 (ofN b))] [] fun r m => r = SV.tup [SV.dv (DV.seq (L1 a b) 8 (G1 a b)), SV.dv (DV.seq (L2 a b) 8 (G2 a b))] ∧ m = [] := fun a b => by have := hof a b; simpa only [hF] using this
      refine loop_up mixed hP hA (8) (fun a => True) [2, 3, 4, 5, 6, 7, 17, 18, 19, 20, 21, 22, 23, 24, 25, 26, 27, 28, 29, 30, 31, 32, 33, 34, 35, 36, 37, 38, 39, 40, 41, 42, 43, 44, 45, 46, 47, 48, 49, 50, 51, 52, 53, 54, 55, 56, 57, 58, 59] (fun a => [(3, .dv (.int .i64 (ofN (T a)))), (4, .dv (.int .i64 (ofN a)))]) (fun _ => []) (trivial) ?_ fun Nx a hN ha hp => ?_
      · exact Ent.env (by cbv; simp [hF, hT0])
      cbv
      by_cases hlt : a < 8
      · cbv
        repeat' first
          | (refine Chk.mk trivial ?_; cbv)
          | (refine bc_true (by first | assumption | (simp (disch := omega) only [hF, natc, Int.ofNat_eq_natCast, w64_in, decide_eq_true_eq, decide_eq_false_iff_not, Int.toNat_natCast, Bool.not_eq_true', Bool.not_eq_false', not_true_eq_false, not_false_eq_true, Int.not_lt, Int.not_le, Bool.and_eq_true, Bool.or_eq_true, Int.ofNat_lt, Int.ofNat_le, Int.natCast_nonneg, Int.toNat_zero, Int.toNat_one, Classical.not_not, beq_self_eq_true, true_and, and_true]; first | done | assumption | omega | (simp only [natc] at *; omega))) ?_; cbv)
          | (refine bc_false (by first | assumption | (simp (disch := omega) only [hF, natc, Int.ofNat_eq_natCast, w64_in, decide_eq_true_eq, decide_eq_false_iff_not, Int.toNat_natCast, Bool.not_eq_true', Bool.not_eq_false', not_true_eq_false, not_false_eq_true, Int.not_lt, Int.not_le, Bool.and_eq_true, Bool.or_eq_true, Int.ofNat_lt, Int.ofNat_le, Int.natCast_nonneg, Int.toNat_zero, Int.toNat_one, Classical.not_not, beq_self_eq_true, true_and, and_true]; first | done | assumption | omega | (simp only [natc] at *; omega))) ?_; cbv)
          | (refine bc_split (fun h => ?_) (fun h => ?_) <;> (try simp (disch := omega) only [hF, natc, Int.ofNat_eq_natCast, w64_in, decide_eq_true_eq, decide_eq_false_iff_not, Int.toNat_natCast, Bool.not_eq_true', Bool.not_eq_false', not_true_eq_false, not_false_eq_true, Int.not_lt, Int.not_le, Bool.and_eq_true, Bool.or_eq_true, Int.ofNat_lt, Int.ofNat_le, Int.natCast_nonneg, Int.toNat_zero, Int.toNat_one, Classical.not_not, beq_self_eq_true, true_and, and_true] at h) <;> cbv)
          | (refine IdxVC.mk (by simp (disch := omega) only [hF, natc, Int.ofNat_eq_natCast, w64_in, decide_eq_true_eq, decide_eq_false_iff_not, Int.toNat_natCast, Bool.not_eq_true', Bool.not_eq_false', not_true_eq_false, not_false_eq_true, Int.not_lt, Int.not_le, Bool.and_eq_true, Bool.or_eq_true, Int.ofNat_lt, Int.ofNat_le, Int.natCast_nonneg, Int.toNat_zero, Int.toNat_one, Classical.not_not, beq_self_eq_true, true_and, and_true]; first | done | omega | (simp only [natc] at *; omega)) (fun kx hk hk2 => ?_); simp (disch := omega) only [hF, natc, Int.ofNat_eq_natCast, w64_in, decide_eq_true_eq, decide_eq_false_iff_not, Int.toNat_natCast, Bool.not_eq_true', Bool.not_eq_false', not_true_eq_false, not_false_eq_true, Int.not_lt, Int.not_le, Bool.and_eq_true, Bool.or_eq_true, Int.ofNat_lt, Int.ofNat_le, Int.natCast_nonneg, Int.toNat_zero, Int.toNat_one, Classical.not_not, beq_self_eq_true, true_and, and_true] at hk; (try obtain rfl : kx = 0 := hk); cbv)
          | (refine Chk.mk (by simp (disch := omega) only [maxN, hF, natc, Int.ofNat_eq_natCast, w64_in, decide_eq_true_eq, decide_eq_false_iff_not, Int.toNat_natCast, Bool.not_eq_true', Bool.not_eq_false', not_true_eq_false, not_false_eq_true, Int.not_lt, Int.not_le, Bool.and_eq_true, Bool.or_eq_true, Int.ofNat_lt, Int.ofNat_le, Int.natCast_nonneg, Int.toNat_zero, Int.toNat_one, Classical.not_not, beq_self_eq_true, true_and, and_true]; first | done | assumption | omega | (simp only [natc] at *; omega)) ?_; cbv)
          | (intro (hmx : _ ≤ maxN); replace hmx : _ ≤ 17592186044416 := hmx; cbv)
          | (intro _; cbv)
        refine loop_up mixed hP hA (8) (fun b => True) [2, 3, 5, 6, 7, 21, 22, 23, 24, 25, 26, 27, 28, 29, 30, 31, 32, 33, 34, 35, 36, 37, 38, 39, 40, 41, 42, 43, 44, 45, 46, 47, 48, 49, 50, 51, 52, 53, 54, 55, 56, 57, 58, 59] (fun b => [(3, .dv (.int .i64 (ofN (I a b)))), (5, .dv (.int .i64 (ofN b)))]) (fun _ => []) (trivial) ?_ fun Nx2 b hN2 hb hp2 => ?_
        · exact Ent.env (by cbv; simp [hF, hI0])
        cbv
        by_cases hltb : b < 8
        · have hof := hof a b
          have hrs := hrs a b
          have hrt' := hrt' a b
          have q1 := hIb a b (by omega) (by omega)
          have q2 := hb1 a b
          have q3 := hb2 a b
          have q4 := hI a b
          have q5 := hown a
          cbv
          repeat' first
            | (refine Chk.mk trivial ?_; cbv)
            | (refine bc_true (by first | assumption | (simp (disch := omega) only [hF, natc, Int.ofNat_eq_natCast, w64_in, decide_eq_true_eq, decide_eq_false_iff_not, Int.toNat_natCast, Bool.not_eq_true', Bool.not_eq_false', not_true_eq_false, not_false_eq_true, Int.not_lt, Int.not_le, Bool.and_eq_true, Bool.or_eq_true, Int.ofNat_lt, Int.ofNat_le, Int.natCast_nonneg, Int.toNat_zero, Int.toNat_one, Classical.not_not, beq_self_eq_true, true_and, and_true]; first | done | assumption | omega | (simp only [natc] at *; omega))) ?_; cbv)
            | (refine bc_false (by first | assumption | (simp (disch := omega) only [hF, natc, Int.ofNat_eq_natCast, w64_in, decide_eq_true_eq, decide_eq_false_iff_not, Int.toNat_natCast, Bool.not_eq_true', Bool.not_eq_false', not_true_eq_false, not_false_eq_true, Int.not_lt, Int.not_le, Bool.and_eq_true, Bool.or_eq_true, Int.ofNat_lt, Int.ofNat_le, Int.natCast_nonneg, Int.toNat_zero, Int.toNat_one, Classical.not_not, beq_self_eq_true, true_and, and_true]; first | done | assumption | omega | (simp only [natc] at *; omega))) ?_; cbv)
            | (refine bc_split (fun h => ?_) (fun h => ?_) <;> (try simp (disch := omega) only [hF, natc, Int.ofNat_eq_natCast, w64_in, decide_eq_true_eq, decide_eq_false_iff_not, Int.toNat_natCast, Bool.not_eq_true', Bool.not_eq_false', not_true_eq_false, not_false_eq_true, Int.not_lt, Int.not_le, Bool.and_eq_true, Bool.or_eq_true, Int.ofNat_lt, Int.ofNat_le, Int.natCast_nonneg, Int.toNat_zero, Int.toNat_one, Classical.not_not, beq_self_eq_true, true_and, and_true] at h) <;> cbv)
            | (refine IdxVC.mk (by simp (disch := omega) only [hF, natc, Int.ofNat_eq_natCast, w64_in, decide_eq_true_eq, decide_eq_false_iff_not, Int.toNat_natCast, Bool.not_eq_true', Bool.not_eq_false', not_true_eq_false, not_false_eq_true, Int.not_lt, Int.not_le, Bool.and_eq_true, Bool.or_eq_true, Int.ofNat_lt, Int.ofNat_le, Int.natCast_nonneg, Int.toNat_zero, Int.toNat_one, Classical.not_not, beq_self_eq_true, true_and, and_true]; first | done | omega | (simp only [natc] at *; omega)) (fun kx hk hk2 => ?_); simp (disch := omega) only [hF, natc, Int.ofNat_eq_natCast, w64_in, decide_eq_true_eq, decide_eq_false_iff_not, Int.toNat_natCast, Bool.not_eq_true', Bool.not_eq_false', not_true_eq_false, not_false_eq_true, Int.not_lt, Int.not_le, Bool.and_eq_true, Bool.or_eq_true, Int.ofNat_lt, Int.ofNat_le, Int.natCast_nonneg, Int.toNat_zero, Int.toNat_one, Classical.not_not, beq_self_eq_true, true_and, and_true] at hk; (try obtain rfl : kx = 0 := hk); cbv)
            | (refine Chk.mk (by simp (disch := omega) only [maxN, hF, natc, Int.ofNat_eq_natCast, w64_in, decide_eq_true_eq, decide_eq_false_iff_not, Int.toNat_natCast, Bool.not_eq_true', Bool.not_eq_false', not_true_eq_false, not_false_eq_true, Int.not_lt, Int.not_le, Bool.and_eq_true, Bool.or_eq_true, Int.ofNat_lt, Int.ofNat_le, Int.natCast_nonneg, Int.toNat_zero, Int.toNat_one, Classical.not_not, beq_self_eq_true, true_and, and_true]; first | done | assumption | omega | (simp only [natc] at *; omega)) ?_; cbv)
            | (intro (hmx : _ ≤ maxN); replace hmx : _ ≤ 17592186044416 := hmx; cbv)
            | (intro _; cbv)
            | (refine call_pure hP code_diary_Of (hof) ?_ ?_; (focus (cbv; (try simp); done)); rintro _ rfl; cbv)
            | (refine call_pure hP code_diary_Right (hrs) ?_ ?_; (focus (cbv; (try simp); done)); rintro _ rfl; cbv)
            | (refine call_pure hP code_diary_Right (hrt') ?_ ?_; (focus (cbv; (try simp); done)); rintro _ rfl; cbv)
          · exfalso
            clear hF hA hP hN hN2 hof hrs hrt'
            simp only [natc] at *
            obtain rfl : a = b := by omega
            omega
          · refine hN2 _ hltb trivial (Ent.env (by cbv; simp (disch := omega) [hF, natc, w64_in, q4]; try omega))
          · refine hN2 _ hltb trivial (Ent.env (by cbv; simp (disch := omega) [hF, natc, w64_in, q4]; try omega))
        · obtain rfl : b = 8 := by omega
          have q4 := hT a
          cbv
          repeat' first
            | (refine Chk.mk trivial ?_; cbv)
            | (refine bc_true (by first | assumption | (simp (disch := omega) only [hF, natc, Int.ofNat_eq_natCast, w64_in, decide_eq_true_eq, decide_eq_false_iff_not, Int.toNat_natCast, Bool.not_eq_true', Bool.not_eq_false', not_true_eq_false, not_false_eq_true, Int.not_lt, Int.not_le, Bool.and_eq_true, Bool.or_eq_true, Int.ofNat_lt, Int.ofNat_le, Int.natCast_nonneg, Int.toNat_zero, Int.toNat_one, Classical.not_not, beq_self_eq_true, true_and, and_true]; first | done | assumption | omega | (simp only [natc] at *; omega))) ?_; cbv)
            | (refine bc_false (by first | assumption | (simp (disch := omega) only [hF, natc, Int.ofNat_eq_natCast, w64_in, decide_eq_true_eq, decide_eq_false_iff_not, Int.toNat_natCast, Bool.not_eq_true', Bool.not_eq_false', not_true_eq_false, not_false_eq_true, Int.not_lt, Int.not_le, Bool.and_eq_true, Bool.or_eq_true, Int.ofNat_lt, Int.ofNat_le, Int.natCast_nonneg, Int.toNat_zero, Int.toNat_one, Classical.not_not, beq_self_eq_true, true_and, and_true]; first | done | assumption | omega | (simp only [natc] at *; omega))) ?_; cbv)
            | (refine bc_split (fun h => ?_) (fun h => ?_) <;> (try simp (disch := omega) only [hF, natc, Int.ofNat_eq_natCast, w64_in, decide_eq_true_eq, decide_eq_false_iff_not, Int.toNat_natCast, Bool.not_eq_true', Bool.not_eq_false', not_true_eq_false, not_false_eq_true, Int.not_lt, Int.not_le, Bool.and_eq_true, Bool.or_eq_true, Int.ofNat_lt, Int.ofNat_le, Int.natCast_nonneg, Int.toNat_zero, Int.toNat_one, Classical.not_not, beq_self_eq_true, true_and, and_true] at h) <;> cbv)
            | (refine IdxVC.mk (by simp (disch := omega) only [hF, natc, Int.ofNat_eq_natCast, w64_in, decide_eq_true_eq, decide_eq_false_iff_not, Int.toNat_natCast, Bool.not_eq_true', Bool.not_eq_false', not_true_eq_false, not_false_eq_true, Int.not_lt, Int.not_le, Bool.and_eq_true, Bool.or_eq_true, Int.ofNat_lt, Int.ofNat_le, Int.natCast_nonneg, Int.toNat_zero, Int.toNat_one, Classical.not_not, beq_self_eq_true, true_and, and_true]; first | done | omega | (simp only [natc] at *; omega)) (fun kx hk hk2 => ?_); simp (disch := omega) only [hF, natc, Int.ofNat_eq_natCast, w64_in, decide_eq_true_eq, decide_eq_false_iff_not, Int.toNat_natCast, Bool.not_eq_true', Bool.not_eq_false', not_true_eq_false, not_false_eq_true, Int.not_lt, Int.not_le, Bool.and_eq_true, Bool.or_eq_true, Int.ofNat_lt, Int.ofNat_le, Int.natCast_nonneg, Int.toNat_zero, Int.toNat_one, Classical.not_not, beq_self_eq_true, true_and, and_true] at hk; (try obtain rfl : kx = 0 := hk); cbv)
            | (refine Chk.mk (by simp (disch := omega) only [maxN, hF, natc, Int.ofNat_eq_natCast, w64_in, decide_eq_true_eq, decide_eq_false_iff_not, Int.toNat_natCast, Bool.not_eq_true', Bool.not_eq_false', not_true_eq_false, not_false_eq_true, Int.not_lt, Int.not_le, Bool.and_eq_true, Bool.or_eq_true, Int.ofNat_lt, Int.ofNat_le, Int.natCast_nonneg, Int.toNat_zero, Int.toNat_one, Classical.not_not, beq_self_eq_true, true_and, and_true]; first | done | assumption | omega | (simp only [natc] at *; omega)) ?_; cbv)
            | (intro (hmx : _ ≤ maxN); replace hmx : _ ≤ 17592186044416 := hmx; cbv)
            | (intro _; cbv)
          refine hN _ hlt trivial (Ent.env (by cbv; simp (disch := omega) [hF, natc, w64_in, q4]))
      · obtain rfl : a = 8 := by omega
        cbv
        repeat' first
          | (refine Chk.mk trivial ?_; cbv)
          | (refine bc_true (by first | assumption | (simp (disch := omega) only [hF, natc, Int.ofNat_eq_natCast, w64_in, decide_eq_true_eq, decide_eq_false_iff_not, Int.toNat_natCast, Bool.not_eq_true', Bool.not_eq_false', not_true_eq_false, not_false_eq_true, Int.not_lt, Int.not_le, Bool.and_eq_true, Bool.or_eq_true, Int.ofNat_lt, Int.ofNat_le, Int.natCast_nonneg, Int.toNat_zero, Int.toNat_one, Classical.not_not, beq_self_eq_true, true_and, and_true]; first | done | assumption | omega | (simp only [natc] at *; omega))) ?_; cbv)
          | (refine bc_false (by first | assumption | (simp (disch := omega) only [hF, natc, Int.ofNat_eq_natCast, w64_in, decide_eq_true_eq, decide_eq_false_iff_not, Int.toNat_natCast, Bool.not_eq_true', Bool.not_eq_false', not_true_eq_false, not_false_eq_true, Int.not_lt, Int.not_le, Bool.and_eq_true, Bool.or_eq_true, Int.ofNat_lt, Int.ofNat_le, Int.natCast_nonneg, Int.toNat_zero, Int.toNat_one, Classical.not_not, beq_self_eq_true, true_and, and_true]; first | done | assumption | omega | (simp only [natc] at *; omega))) ?_; cbv)
          | (refine bc_split (fun h => ?_) (fun h => ?_) <;> (try simp (disch := omega) only [hF, natc, Int.ofNat_eq_natCast, w64_in, decide_eq_true_eq, decide_eq_false_iff_not, Int.toNat_natCast, Bool.not_eq_true', Bool.not_eq_false', not_true_eq_false, not_false_eq_true, Int.not_lt, Int.not_le, Bool.and_eq_true, Bool.or_eq_true, Int.ofNat_lt, Int.ofNat_le, Int.natCast_nonneg, Int.toNat_zero, Int.toNat_one, Classical.not_not, beq_self_eq_true, true_and, and_true] at h) <;> cbv)
          | (refine IdxVC.mk (by simp (disch := omega) only [hF, natc, Int.ofNat_eq_natCast, w64_in, decide_eq_true_eq, decide_eq_false_iff_not, Int.toNat_natCast, Bool.not_eq_true', Bool.not_eq_false', not_true_eq_false, not_false_eq_true, Int.not_lt, Int.not_le, Bool.and_eq_true, Bool.or_eq_true, Int.ofNat_lt, Int.ofNat_le, Int.natCast_nonneg, Int.toNat_zero, Int.toNat_one, Classical.not_not, beq_self_eq_true, true_and, and_true]; first | done | omega | (simp only [natc] at *; omega)) (fun kx hk hk2 => ?_); simp (disch := omega) only [hF, natc, Int.ofNat_eq_natCast, w64_in, decide_eq_true_eq, decide_eq_false_iff_not, Int.toNat_natCast, Bool.not_eq_true', Bool.not_eq_false', not_true_eq_false, not_false_eq_true, Int.not_lt, Int.not_le, Bool.and_eq_true, Bool.or_eq_true, Int.ofNat_lt, Int.ofNat_le, Int.natCast_nonneg, Int.toNat_zero, Int.toNat_one, Classical.not_not, beq_self_eq_true, true_and, and_true] at hk; (try obtain rfl : kx = 0 := hk); cbv)
          | (refine Chk.mk (by simp (disch := omega) only [maxN, hF, natc, Int.ofNat_eq_natCast, w64_in, decide_eq_true_eq, decide_eq_false_iff_not, Int.toNat_natCast, Bool.not_eq_true', Bool.not_eq_false', not_true_eq_false, not_false_eq_true, Int.not_lt, Int.not_le, Bool.and_eq_true, Bool.or_eq_true, Int.ofNat_lt, Int.ofNat_le, Int.natCast_nonneg, Int.toNat_zero, Int.toNat_one, Classical.not_not, beq_self_eq_true, true_and, and_true]; first | done | assumption | omega | (simp only [natc] at *; omega)) ?_; cbv)
          | (intro (hmx : _ ≤ maxN); replace hmx : _ ≤ 17592186044416 := hmx; cbv)
          | (intro _; cbv)
          | (refine call_pure hP code_law19_alive (ok_alive) ?_ ?_; (focus (cbv; (try simp); done)); rintro _ rfl; cbv)
        subst hQ; exact leaf_data rfl rfl ⟨rfl, rfl⟩
    · refine fn_walkv mixed fn_law19_DiaryParts (Ent.refl _ _) fun bin cmp un conv bnot beq band sel isel ofN toN inb nz nneg lt le room' slb add sub sbin scmp slen sget ssub addk pc pb pi pf ps mkok min_ ig aeq P hP hA hF Q hQ => ?_
      have hr : CallOK (O := Ob) PR n_diary_Right [.dv (.seq n 8 G)] [] fun r m => r = .dv (.bool false) ∧ m = [] := (ok_Right S).mono fun r m ⟨⟨v, hv, e⟩, hm⟩ => ⟨by rw [e, Bool.eq_false_iff.2 fun h => hrt (hv.1 h)], hm⟩
      cbv
      repeat' first
        | (refine Chk.mk trivial ?_; cbv)
        | (refine bc_true (by first | assumption | (simp (disch := omega) only [hF, natc, Int.ofNat_eq_natCast, w64_in, decide_eq_true_eq, decide_eq_false_iff_not, Int.toNat_natCast, Bool.not_eq_true', Bool.not_eq_false', not_true_eq_false, not_false_eq_true, Int.not_lt, Int.not_le, Bool.and_eq_true, Bool.or_eq_true, Int.ofNat_lt, Int.ofNat_le, Int.natCast_nonneg, Int.toNat_zero, Int.toNat_one, Classical.not_not, beq_self_eq_true, true_and, and_true]; first | done | assumption | omega | (simp only [natc] at *; omega))) ?_; cbv)
        | (refine bc_false (by first | assumption | (simp (disch := omega) only [hF, natc, Int.ofNat_eq_natCast, w64_in, decide_eq_true_eq, decide_eq_false_iff_not, Int.toNat_natCast, Bool.not_eq_true', Bool.not_eq_false', not_true_eq_false, not_false_eq_true, Int.not_lt, Int.not_le, Bool.and_eq_true, Bool.or_eq_true, Int.ofNat_lt, Int.ofNat_le, Int.natCast_nonneg, Int.toNat_zero, Int.toNat_one, Classical.not_not, beq_self_eq_true, true_and, and_true]; first | done | assumption | omega | (simp only [natc] at *; omega))) ?_; cbv)
        | (refine bc_split (fun h => ?_) (fun h => ?_) <;> (try simp (disch := omega) only [hF, natc, Int.ofNat_eq_natCast, w64_in, decide_eq_true_eq, decide_eq_false_iff_not, Int.toNat_natCast, Bool.not_eq_true', Bool.not_eq_false', not_true_eq_false, not_false_eq_true, Int.not_lt, Int.not_le, Bool.and_eq_true, Bool.or_eq_true, Int.ofNat_lt, Int.ofNat_le, Int.natCast_nonneg, Int.toNat_zero, Int.toNat_one, Classical.not_not, beq_self_eq_true, true_and, and_true] at h) <;> cbv)
        | (refine IdxVC.mk (by simp (disch := omega) only [hF, natc, Int.ofNat_eq_natCast, w64_in, decide_eq_true_eq, decide_eq_false_iff_not, Int.toNat_natCast, Bool.not_eq_true', Bool.not_eq_false', not_true_eq_false, not_false_eq_true, Int.not_lt, Int.not_le, Bool.and_eq_true, Bool.or_eq_true, Int.ofNat_lt, Int.ofNat_le, Int.natCast_nonneg, Int.toNat_zero, Int.toNat_one, Classical.not_not, beq_self_eq_true, true_and, and_true]; first | done | omega | (simp only [natc] at *; omega)) (fun kx hk hk2 => ?_); simp (disch := omega) only [hF, natc, Int.ofNat_eq_natCast, w64_in, decide_eq_true_eq, decide_eq_false_iff_not, Int.toNat_natCast, Bool.not_eq_true', Bool.not_eq_false', not_true_eq_false, not_false_eq_true, Int.not_lt, Int.not_le, Bool.and_eq_true, Bool.or_eq_true, Int.ofNat_lt, Int.ofNat_le, Int.natCast_nonneg, Int.toNat_zero, Int.toNat_one, Classical.not_not, beq_self_eq_true, true_and, and_true] at hk; (try obtain rfl : kx = 0 := hk); cbv)
        | (refine Chk.mk (by simp (disch := omega) only [maxN, hF, natc, Int.ofNat_eq_natCast, w64_in, decide_eq_true_eq, decide_eq_false_iff_not, Int.toNat_natCast, Bool.not_eq_true', Bool.not_eq_false', not_true_eq_false, not_false_eq_true, Int.not_lt, Int.not_le, Bool.and_eq_true, Bool.or_eq_true, Int.ofNat_lt, Int.ofNat_le, Int.natCast_nonneg, Int.toNat_zero, Int.toNat_one, Classical.not_not, beq_self_eq_true, true_and, and_true]; first | done | assumption | omega | (simp only [natc] at *; omega)) ?_; cbv)
        | (intro (hmx : _ ≤ maxN); replace hmx : _ ≤ 17592186044416 := hmx; cbv)
        | (intro _; cbv)
        | (refine call_pure hP code_law19_Few (hfew) ?_ ?_; (focus (cbv; (try simp); done)); rintro _ rfl; cbv)
        | (refine call_pure hP code_law19_alive (ok_alive) ?_ ?_; (focus (cbv; (try simp); done)); rintro _ rfl; cbv)
        | (refine call_pure hP code_diary_Right (hr) ?_ ?_; (focus (cbv; (try simp); done)); rintro _ rfl; cbv)
      subst hQ; exact leaf_data rfl rfl ⟨rfl, rfl⟩
  · have hfew : CallOK (O := Ob) PR n_law19_Few [.dv (.seq n 8 G), .dv (.int .i64 60)] [] fun r m => r = .dv (.bool false) ∧ m = [] := hfew.mono fun r m ⟨⟨v, hv, e⟩, hm⟩ => ⟨by rw [e, Bool.eq_false_iff.2 fun h => hf (hv.1 h)], hm⟩
    refine fn_walkv mixed fn_law19_DiaryParts (Ent.refl _ _) fun bin cmp un conv bnot beq band sel isel ofN toN inb nz nneg lt le room' slb add sub sbin scmp slen sget ssub addk pc pb pi pf ps mkok min_ ig aeq P hP hA hF Q hQ => ?_
    cbv
    repeat' first
      | (refine Chk.mk trivial ?_; cbv)
      | (refine bc_true (by first | assumption | (simp (disch := omega) only [hF, natc, Int.ofNat_eq_natCast, w64_in, decide_eq_true_eq, decide_eq_false_iff_not, Int.toNat_natCast, Bool.not_eq_true', Bool.not_eq_false', not_true_eq_false, not_false_eq_true, Int.not_lt, Int.not_le, Bool.and_eq_true, Bool.or_eq_true, Int.ofNat_lt, Int.ofNat_le, Int.natCast_nonneg, Int.toNat_zero, Int.toNat_one, Classical.not_not, beq_self_eq_true, true_and, and_true]; first | done | assumption | omega | (simp only [natc] at *; omega))) ?_; cbv)
      | (refine bc_false (by first | assumption | (simp (disch := omega) only [hF, natc, Int.ofNat_eq_natCast, w64_in, decide_eq_true_eq, decide_eq_false_iff_not, Int.toNat_natCast, Bool.not_eq_true', Bool.not_eq_false', not_true_eq_false, not_false_eq_true, Int.not_lt, Int.not_le, Bool.and_eq_true, Bool.or_eq_true, Int.ofNat_lt, Int.ofNat_le, Int.natCast_nonneg, Int.toNat_zero, Int.toNat_one, Classical.not_not, beq_self_eq_true, true_and, and_true]; first | done | assumption | omega | (simp only [natc] at *; omega))) ?_; cbv)
      | (refine bc_split (fun h => ?_) (fun h => ?_) <;> (try simp (disch := omega) only [hF, natc, Int.ofNat_eq_natCast, w64_in, decide_eq_true_eq, decide_eq_false_iff_not, Int.toNat_natCast, Bool.not_eq_true', Bool.not_eq_false', not_true_eq_false, not_false_eq_true, Int.not_lt, Int.not_le, Bool.and_eq_true, Bool.or_eq_true, Int.ofNat_lt, Int.ofNat_le, Int.natCast_nonneg, Int.toNat_zero, Int.toNat_one, Classical.not_not, beq_self_eq_true, true_and, and_true] at h) <;> cbv)
      | (refine IdxVC.mk (by simp (disch := omega) only [hF, natc, Int.ofNat_eq_natCast, w64_in, decide_eq_true_eq, decide_eq_false_iff_not, Int.toNat_natCast, Bool.not_eq_true', Bool.not_eq_false', not_true_eq_false, not_false_eq_true, Int.not_lt, Int.not_le, Bool.and_eq_true, Bool.or_eq_true, Int.ofNat_lt, Int.ofNat_le, Int.natCast_nonneg, Int.toNat_zero, Int.toNat_one, Classical.not_not, beq_self_eq_true, true_and, and_true]; first | done | omega | (simp only [natc] at *; omega)) (fun kx hk hk2 => ?_); simp (disch := omega) only [hF, natc, Int.ofNat_eq_natCast, w64_in, decide_eq_true_eq, decide_eq_false_iff_not, Int.toNat_natCast, Bool.not_eq_true', Bool.not_eq_false', not_true_eq_false, not_false_eq_true, Int.not_lt, Int.not_le, Bool.and_eq_true, Bool.or_eq_true, Int.ofNat_lt, Int.ofNat_le, Int.natCast_nonneg, Int.toNat_zero, Int.toNat_one, Classical.not_not, beq_self_eq_true, true_and, and_true] at hk; (try obtain rfl : kx = 0 := hk); cbv)
      | (refine Chk.mk (by simp (disch := omega) only [maxN, hF, natc, Int.ofNat_eq_natCast, w64_in, decide_eq_true_eq, decide_eq_false_iff_not, Int.toNat_natCast, Bool.not_eq_true', Bool.not_eq_false', not_true_eq_false, not_false_eq_true, Int.not_lt, Int.not_le, Bool.and_eq_true, Bool.or_eq_true, Int.ofNat_lt, Int.ofNat_le, Int.natCast_nonneg, Int.toNat_zero, Int.toNat_one, Classical.not_not, beq_self_eq_true, true_and, and_true]; first | done | assumption | omega | (simp only [natc] at *; omega)) ?_; cbv)
      | (intro (hmx : _ ≤ maxN); replace hmx : _ ≤ 17592186044416 := hmx; cbv)
      | (intro _; cbv)
      | (refine call_pure hP code_law19_Few (hfew) ?_ ?_; (focus (cbv; (try simp); done)); rintro _ rfl; cbv)
      | (refine call_pure hP code_law19_alive (ok_alive) ?_ ?_; (focus (cbv; (try simp); done)); rintro _ rfl; cbv)
    subst hQ; exact leaf_data rfl rfl ⟨rfl, rfl⟩

end Go.Proofs.YtophlodlencgiabDoor
