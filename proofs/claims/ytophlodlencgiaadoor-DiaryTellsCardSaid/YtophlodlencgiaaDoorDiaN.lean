/-
  Walks: a number's digits, by the document and by Go's library; an entry's text.
-/
import Derived.Test.YtophlodlencgiaaDoorDiaD
import Derived.Test.YtophlodlencgiaaDoorHShelf
import Derived.Lib.ItoaLen
namespace Go.Proofs.YtophlodlencgiaaDoor
open Go.V
set_option linter.unusedVariables false
set_option linter.unusedSimpArgs false
set_option maxRecDepth 100000
set_option maxHeartbeats 8000000

/-- A list of bytes as a string. -/
def ofB (l : List UInt8) : ByteArray := ⟨l.toArray⟩

theorem ofB_app (x y : List UInt8) : ofB x ++ ofB y = ofB (x ++ y) := by
  apply ByteArray.ext
  simp [ofB, ByteArray.data_append]

theorem ok_Itoa (n : Int) (h0 : -9223372036854775808 ≤ n) (h1 : n ≤ 9223372036854775807) : CallOK (O := Ob) PR n_strconv_Itoa [.dv (.int .i64 n)] [] fun r m => r = .dv (.str (ofB (Lib.itoa n))) ∧ m = [] := by
  intro β I w F vs hm ha
  obtain ⟨x, xs, rfl, hx, hxs⟩ := ha
  simp only [RelL] at hxs
  subst hxs
  simp only [Rel, DRel] at hx
  subst hx
  have htab : Lib.TabIs Tryd.prog w "internal/strconv.uint64pow10" .u64 Lib.pow10Tab := by
    obtain ⟨hI, cs, ty, fz, hb, hs, hc⟩ := hm.wh.2 2 20 1 _ rfl
    unfold Lib.TabIs World.var?
    rw [show Tryd.prog.globalNamed "internal/strconv.uint64pow10" = some 2 by kernel_rfl, Option.bind_some, hb]
    show some cs = _
    congr 1
    apply Array.ext
    · simp [hs, Lib.pow10Tab]
    · intro i hi hi2
      have h20 : i < 20 := by omega
      have := hc i 0 h20 (by omega)
      simp only [DRel, Nat.mul_one, Nat.add_zero] at this
      rw [Array.getD_eq_getD_getElem?, Array.getElem?_eq_getElem hi, Option.getD_some] at this
      rw [this]
      simp [Lib.pow10Tab]
  refine Calls.mono (Tryd.strconv_Itoa n h0 h1 w htab) ?_
  rintro e w' ⟨rfl, k, os, rfl⟩
  refine ⟨_, β, I, F, .dv (.str (ofB (Lib.itoa n))), [], rfl, ⟨rfl, rfl, rfl, ?_, fun b hb _ => Sort.heap_grow_old _ os hb, fun a ha => Sort.frozen?_grow _ os a ha, fun _ h => h, fun _ h => .inl h, fun _ h => .inl h⟩, fun _ h => absurd h (Nat.not_lt_zero _), Nat.le_refl _, ?_, ?_, rfl, rfl⟩
  · rw [Sort.size_grow]; exact Nat.le_add_right _ _
  · exact ⟨fun h c hc => by simp at hc, hm.apart, hm.none, fun h b hb => absurd hb (hm.none h b (Nat.zero_le _)), ⟨fun b hb => Nat.lt_of_lt_of_le (hm.whole b hb) (by rw [Sort.size_grow]; exact Nat.le_add_right _ _), hm.wh.2.mono (fun _ h => h) fun b hb => Sort.heap_grow_old _ os (hm.whole b hb)⟩⟩
  · simp only [Rel, DRel]; rfl

theorem dd_small {l : Nat} (h : l < 10) (s : List UInt8) : Lib.decDigits l ++ s = UInt8.ofNat (48 + l) :: s := by rw [Lib.decDigits_one h]; rfl
theorem dd_big {l : Nat} (h : ¬ l < 10) (s : List UInt8) : Lib.decDigits l ++ s = Lib.decDigits (l / 10) ++ (UInt8.ofNat (48 + l % 10) :: s) := by
  rw [Lib.decDigits, dif_neg h, List.append_assoc]; rfl

theorem digit_sub : ∀ m : Nat, m < 10 → (⟨⟨[48, 49, 50, 51, 52, 53, 54, 55, 56, 57]⟩⟩ : ByteArray).extract m (m + 1) = ofB [UInt8.ofNat (48 + m)] := by decide

theorem okR_Digits (n : Int) (h0 : -9223372036854775808 ≤ n) (h1 : n ≤ 9223372036854775807) : CallOK (O := Ob) PR n_ref19_Digits [.dv (.int .i64 n)] [] fun r m => r = .dv (.str (ofB (Lib.itoa n))) ∧ m = [] := by
  obtain ⟨o, ho⟩ : ∃ o : List UInt8 → ByteArray, ∀ l, o l = ofB l := ⟨_, fun _ => rfl⟩
  obtain ⟨u, hu⟩ : ∃ u : Nat, u = n.natAbs := ⟨_, rfl⟩
  obtain ⟨sg, hsg⟩ : ∃ f : Nat → Int, ∀ l, f l = if n < 0 then -(l : Int) else l := ⟨_, fun _ => rfl⟩
  have hsu : sg u = n := by rw [hsg]; split <;> omega
  have hlen : (Lib.decDigits u).length ≤ 21 := by
    have := Lib.itoa_length_le n h0 h1
    unfold Lib.itoa at this
    split at this
    · simp only [List.length_cons] at this; rw [hu]; omega
    · rw [hu, show n.natAbs = n.toNat by omega]; exact this
  have hend : (if n < 0 then ofB [45] ++ ofB (Lib.decDigits u) else ofB (Lib.decDigits u)) = ofB (Lib.itoa n) := by
    unfold Lib.itoa
    split
    · rw [ofB_app, hu]; rfl
    · rw [hu, show n.natAbs = n.toNat by omega]
  have ho0 : o [] = ofB [] := ho []
  have hos : ∀ l : List UInt8, (o l).size = l.length := fun l => by rw [ho]; rfl
  rw [← hend]
  clear hend
  refine fn_walkv mixed fn_ref19_Digits (Ent.refl _ _) fun bin cmp un conv bnot beq band sel isel ofN toN inb nz nneg lt le room' slb add sub sbin scmp slen sget ssub addk pc pb pi pf ps mkok min_ ig aeq P hP hA hF Q hQ => ?_
  have hps : ∀ a b, ps .scat [.str a, .str b] = a ++ b := by
    intro a b
    have : ps = puS := congrArg Ar.ps hA
    rw [this]; rfl
  have hpc : ∀ a b : ByteArray, a.size + b.size ≤ 1000 → pc .scat [.str a, .str b] := by
    intro a b h
    have : pc = puC := congrArg Ar.pc hA
    rw [this]
    show ((a.size + b.size : Nat) : Int) ≤ 9223372036854775807
    omega
  have hsub : ∀ m, m < 10 → ssub ⟨⟨[48, 49, 50, 51, 52, 53, 54, 55, 56, 57]⟩⟩ m (m + 1) = o [UInt8.ofNat (48 + m)] := by
    intro m hm
    have : ssub = fun s l h => s.extract l h := congrArg Ar.ssub hA
    rw [this, ho]
    exact digit_sub m hm
  have hsl : slen ⟨⟨[48, 49, 50, 51, 52, 53, 54, 55, 56, 57]⟩⟩ = 10 := by simp only [hF]; rfl
  obtain ⟨ng, hng⟩ : ∃ f : Nat → Int, ∀ m, f m = -(m : Int) := ⟨_, fun _ => rfl⟩
  obtain ⟨hi, hhi⟩ : ∃ b : Prop, b ↔ n < 0 := ⟨_, Iff.rfl⟩
  have hr : ∀ l : Nat, ¬ n < 0 → bin .rem .i64 (sg l) 10 = ofN (l % 10) := by
    intro l hn; simp only [hF, hsg, if_neg hn]; rw [Int.tmod_eq_emod_of_nonneg (by omega)]; omega
  have hrn : ∀ l : Nat, n < 0 → bin .rem .i64 (sg l) 10 = ng (l % 10) := by
    intro l hn; simp only [hF, hsg, if_pos hn, hng, Int.neg_tmod]; rw [Int.tmod_eq_emod_of_nonneg (by omega)]; omega
  have hn0 : ng 0 = ofN 0 := by simp only [hF, hng]; rfl
  have hnl : ∀ m, 0 < m → cmp .lss (ng m) 0 = true := by
    intro m h; simp only [hF, hng, decide_eq_true_eq]; omega
  have hl0 : ∀ m, cmp .lss (ofN m) 0 = false := by
    intro m; simp only [hF, decide_eq_false_iff_not]; omega
  have hns : ∀ m, m < 10 → bin .sub .i64 0 (ng m) = ofN m := by
    intro m h; simp only [hF, hng]; rw [w64_in (by omega)]; omega
  have hq : ∀ l : Nat, l ≤ 9223372036854775808 → bin .quo .i64 (sg l) 10 = sg (l / 10) := by
    intro l h
    simp only [hF, hsg]
    split
    · rw [Int.neg_tdiv, Int.tdiv_eq_ediv_of_nonneg (by omega), w64_in (by omega)]; omega
    · rw [Int.tdiv_eq_ediv_of_nonneg (by omega), w64_in (by omega)]; omega
  have hq0 : ∀ l : Nat, l < 10 → cmp .eql (sg (l / 10)) 0 = true := by
    intro l h; simp only [hF, hsg, decide_eq_true_eq]; split <;> omega
  have hq1 : ∀ l : Nat, ¬ l < 10 → cmp .eql (sg (l / 10)) 0 = false := by
    intro l h; simp only [hF, hsg, decide_eq_false_iff_not]; split <;> omega
  have hs10 : ∀ m, m < 10 → slb (ofN m) (bin .add .i64 (ofN m) 1) (ofN (slen ⟨⟨[48, 49, 50, 51, 52, 53, 54, 55, 56, 57]⟩⟩)) (ofN (slen ⟨⟨[48, 49, 50, 51, 52, 53, 54, 55, 56, 57]⟩⟩)) := by
    intro m hm10
    rw [hsl]; simp (disch := omega) only [hF, w64_in]; omega
  have hss : ∀ m, m < 10 → ssub ⟨⟨[48, 49, 50, 51, 52, 53, 54, 55, 56, 57]⟩⟩ (toN (ofN m)) (toN (bin .add .i64 (ofN m) 1)) = o [UInt8.ofNat (48 + m)] := by
    intro m hm10
    rw [← hsub m hm10]
    have e1 : toN (ofN m) = m := by simp only [hF]; omega
    have e2 : toN (bin .add .i64 (ofN m) 1) = m + 1 := by simp only [hF]; rw [w64_in (by omega)]; omega
    rw [e1, e2]
  have hcat : ∀ (c : UInt8) (s : List UInt8), s.length ≤ 21 → pc .scat [.str (o [c]), .str (o s)] := fun c s h => hpc _ _ (by rw [hos, hos]; simp; omega)
  have hcv : ∀ (c : UInt8) (s : List UInt8), ps .scat [.str (o [c]), .str (o s)] = o (c :: s) := by
    intro c s; rw [hps, ho, ho, ho, ofB_app]; rfl
  have hu63 : u ≤ 9223372036854775808 := by omega
  have hfin : ∀ s : List UInt8, s = Lib.decDigits u → (n < 0 → ps .scat [.str ⟨⟨[45]⟩⟩, .str (o s)] = if n < 0 then ofB [45] ++ ofB (Lib.decDigits u) else ofB (Lib.decDigits u)) ∧ (¬ n < 0 → o s = if n < 0 then ofB [45] ++ ofB (Lib.decDigits u) else ofB (Lib.decDigits u)) := by
    rintro s rfl
    exact ⟨fun h => by rw [if_pos h, hps, ho]; rfl, fun h => by rw [if_neg h, ho]⟩
  have hpc45 : ∀ s : List UInt8, s.length ≤ 21 → pc .scat [.str ⟨⟨[45]⟩⟩, .str (o s)] := fun s h => hpc _ _ (by rw [hos]; show 1 + _ ≤ _; omega)
  generalize (if n < 0 then ofB [45] ++ ofB (Lib.decDigits u) else ofB (Lib.decDigits u)) = RR at *
  cbv
  repeat' first
    | (refine Chk.mk trivial ?_; cbv)
    | (refine bc_true (by first | assumption | (simp (disch := omega) only [hF, natc, Int.ofNat_eq_natCast, w64_in, decide_eq_true_eq, decide_eq_false_iff_not, Int.toNat_natCast, Bool.not_eq_true', Bool.not_eq_false', not_true_eq_false, not_false_eq_true, Int.not_lt, Int.not_le, Bool.and_eq_true, Bool.or_eq_true, Int.ofNat_lt, Int.ofNat_le, Int.natCast_nonneg, Int.toNat_zero, Int.toNat_one, Classical.not_not, beq_self_eq_true, true_and, and_true]; first | done | assumption | omega | (simp only [natc] at *; omega))) ?_; cbv)
    | (refine bc_false (by first | assumption | (simp (disch := omega) only [hF, natc, Int.ofNat_eq_natCast, w64_in, decide_eq_true_eq, decide_eq_false_iff_not, Int.toNat_natCast, Bool.not_eq_true', Bool.not_eq_false', not_true_eq_false, not_false_eq_true, Int.not_lt, Int.not_le, Bool.and_eq_true, Bool.or_eq_true, Int.ofNat_lt, Int.ofNat_le, Int.natCast_nonneg, Int.toNat_zero, Int.toNat_one, Classical.not_not, beq_self_eq_true, true_and, and_true]; first | done | assumption | omega | (simp only [natc] at *; omega))) ?_; cbv)
    | (refine bc_split (fun h => ?_) (fun h => ?_) <;> (try simp (disch := omega) only [hF, natc, Int.ofNat_eq_natCast, w64_in, decide_eq_true_eq, decide_eq_false_iff_not, Int.toNat_natCast, Bool.not_eq_true', Bool.not_eq_false', not_true_eq_false, not_false_eq_true, Int.not_lt, Int.not_le, Bool.and_eq_true, Bool.or_eq_true, Int.ofNat_lt, Int.ofNat_le, Int.natCast_nonneg, Int.toNat_zero, Int.toNat_one, Classical.not_not, beq_self_eq_true, true_and, and_true] at h) <;> cbv)
    | (refine IdxVC.mk (by simp (disch := omega) only [hF, natc, Int.ofNat_eq_natCast, w64_in, decide_eq_true_eq, decide_eq_false_iff_not, Int.toNat_natCast, Bool.not_eq_true', Bool.not_eq_false', not_true_eq_false, not_false_eq_true, Int.not_lt, Int.not_le, Bool.and_eq_true, Bool.or_eq_true, Int.ofNat_lt, Int.ofNat_le, Int.natCast_nonneg, Int.toNat_zero, Int.toNat_one, Classical.not_not, beq_self_eq_true, true_and, and_true]; first | done | omega | (simp only [natc] at *; omega)) (fun kx hk hk2 => ?_); simp (disch := omega) only [hF, natc, Int.ofNat_eq_natCast, w64_in, decide_eq_true_eq, decide_eq_false_iff_not, Int.toNat_natCast, Bool.not_eq_true', Bool.not_eq_false', not_true_eq_false, not_false_eq_true, Int.not_lt, Int.not_le, Bool.and_eq_true, Bool.or_eq_true, Int.ofNat_lt, Int.ofNat_le, Int.natCast_nonneg, Int.toNat_zero, Int.toNat_one, Classical.not_not, beq_self_eq_true, true_and, and_true] at hk; (try obtain rfl : kx = 0 := hk); cbv)
    | (refine Chk.mk (by simp (disch := omega) only [maxN, hF, natc, Int.ofNat_eq_natCast, w64_in, decide_eq_true_eq, decide_eq_false_iff_not, Int.toNat_natCast, Bool.not_eq_true', Bool.not_eq_false', not_true_eq_false, not_false_eq_true, Int.not_lt, Int.not_le, Bool.and_eq_true, Bool.or_eq_true, Int.ofNat_lt, Int.ofNat_le, Int.natCast_nonneg, Int.toNat_zero, Int.toNat_one, Classical.not_not, beq_self_eq_true, true_and, and_true]; first | done | assumption | omega | (simp only [natc] at *; omega)) ?_; cbv)
    | (intro (hmx : _ ≤ maxN); replace hmx : _ ≤ 17592186044416 := hmx; cbv)
    | (intro _; cbv)
  refine loop_ix mixed hP hA (fun i : Nat × List UInt8 => i.1) (fun i => Lib.decDigits i.1 ++ i.2 = Lib.decDigits u ∧ i.1 ≤ 9223372036854775808) [4, 5, 6, 8, 9, 10, 11, 12, 13, 14, 15, 16, 17, 18, 19, 20, 21, 22, 23, 24] (fun i => [(4, .dv (.str (o i.2))), (5, .dv (.int .i64 (sg i.1)))]) (fun _ => []) (u, []) ⟨List.append_nil _, hu63⟩ ?_ ?_
  · exact Ent.env (by cbv; simp [hsu, ho0]; rfl)
  rintro Nx ⟨l, s⟩
  intro hN hp
  cbv
  obtain ⟨hp, hl63⟩ : Lib.decDigits l ++ s = Lib.decDigits u ∧ l ≤ 9223372036854775808 := hp
  have hsl20 : s.length ≤ 21 := by
    have := congrArg List.length hp
    rw [List.length_append] at this
    omega
  have hm10 : l % 10 < 10 := Nat.mod_lt _ (by omega)
  have hdone : l < 10 → UInt8.ofNat (48 + l % 10) :: s = Lib.decDigits u := fun h => by rw [← hp, dd_small h, Nat.mod_eq_of_lt h]
  have hmore : ¬ l < 10 → Lib.decDigits (l / 10) ++ (UInt8.ofNat (48 + l % 10) :: s) = Lib.decDigits u := fun h => by rw [← hp, dd_big h]
  have hlen1 : l < 10 → (UInt8.ofNat (48 + l % 10) :: s).length ≤ 21 := fun h => by rw [hdone h]; exact hlen
  have hr := hr l
  have hrn := hrn l
  have hq := hq l hl63
  have hq0 := hq0 l
  have hq1 := hq1 l
  have hlt : ¬ l < 10 → l / 10 < l := fun h => by omega
  have hl10 : l / 10 ≤ 9223372036854775808 := by omega
  generalize l / 10 = l1 at *
  generalize l % 10 = m at *
  have hs10 := hs10 m hm10
  have hss := hss m hm10
  have hns := hns m hm10
  generalize UInt8.ofNat (48 + m) = c at *
  have hcat := hcat c s hsl20
  have hcv := hcv c s
  refine Chk.mk (by simp [hF]) ?_
  cbv
  by_cases hn : n < 0
  · rw [hrn hn]
    have hneg : ∀ K : Int → Prop, K 0 = K 0 := fun _ => rfl
    by_cases hm0 : m = 0
    · subst hm0
      rw [hn0]
      by_cases hl : l < 10
      · have hfin := (hfin _ (hdone hl)).1 hn
        have hp45 := hpc45 _ (hlen1 hl)
        cbv
        repeat' first
          | ((refine bc_false (hl0 _) ?_); cbv)
          | ((refine Chk.mk hs10 ?_); cbv)
          | ((rw [hss]); cbv)
          | ((refine Chk.mk hcat ?_); cbv)
          | ((rw [hcv]); cbv)
          | ((rw [hq]); cbv)
          | ((refine bc_true (hq0 hl) ?_); cbv)
          | ((refine Chk.mk hp45 ?_); cbv)
          | ((rw [hfin]); cbv)
          | (refine Chk.mk trivial ?_; cbv)
          | (refine bc_true (by first | assumption | (simp (disch := omega) only [hF, natc, Int.ofNat_eq_natCast, w64_in, decide_eq_true_eq, decide_eq_false_iff_not, Int.toNat_natCast, Bool.not_eq_true', Bool.not_eq_false', not_true_eq_false, not_false_eq_true, Int.not_lt, Int.not_le, Bool.and_eq_true, Bool.or_eq_true, Int.ofNat_lt, Int.ofNat_le, Int.natCast_nonneg, Int.toNat_zero, Int.toNat_one, Classical.not_not, beq_self_eq_true, true_and, and_true]; first | done | assumption | omega | (simp only [natc] at *; omega))) ?_; cbv)
          | (refine bc_false (by first | assumption | (simp (disch := omega) only [hF, natc, Int.ofNat_eq_natCast, w64_in, decide_eq_true_eq, decide_eq_false_iff_not, Int.toNat_natCast, Bool.not_eq_true', Bool.not_eq_false', not_true_eq_false, not_false_eq_true, Int.not_lt, Int.not_le, Bool.and_eq_true, Bool.or_eq_true, Int.ofNat_lt, Int.ofNat_le, Int.natCast_nonneg, Int.toNat_zero, Int.toNat_one, Classical.not_not, beq_self_eq_true, true_and, and_true]; first | done | assumption | omega | (simp only [natc] at *; omega))) ?_; cbv)
          | (refine bc_split (fun h => ?_) (fun h => ?_) <;> (try simp (disch := omega) only [hF, natc, Int.ofNat_eq_natCast, w64_in, decide_eq_true_eq, decide_eq_false_iff_not, Int.toNat_natCast, Bool.not_eq_true', Bool.not_eq_false', not_true_eq_false, not_false_eq_true, Int.not_lt, Int.not_le, Bool.and_eq_true, Bool.or_eq_true, Int.ofNat_lt, Int.ofNat_le, Int.natCast_nonneg, Int.toNat_zero, Int.toNat_one, Classical.not_not, beq_self_eq_true, true_and, and_true] at h) <;> cbv)
          | (refine IdxVC.mk (by simp (disch := omega) only [hF, natc, Int.ofNat_eq_natCast, w64_in, decide_eq_true_eq, decide_eq_false_iff_not, Int.toNat_natCast, Bool.not_eq_true', Bool.not_eq_false', not_true_eq_false, not_false_eq_true, Int.not_lt, Int.not_le, Bool.and_eq_true, Bool.or_eq_true, Int.ofNat_lt, Int.ofNat_le, Int.natCast_nonneg, Int.toNat_zero, Int.toNat_one, Classical.not_not, beq_self_eq_true, true_and, and_true]; first | done | omega | (simp only [natc] at *; omega)) (fun kx hk hk2 => ?_); simp (disch := omega) only [hF, natc, Int.ofNat_eq_natCast, w64_in, decide_eq_true_eq, decide_eq_false_iff_not, Int.toNat_natCast, Bool.not_eq_true', Bool.not_eq_false', not_true_eq_false, not_false_eq_true, Int.not_lt, Int.not_le, Bool.and_eq_true, Bool.or_eq_true, Int.ofNat_lt, Int.ofNat_le, Int.natCast_nonneg, Int.toNat_zero, Int.toNat_one, Classical.not_not, beq_self_eq_true, true_and, and_true] at hk; (try obtain rfl : kx = 0 := hk); cbv)
          | (refine Chk.mk (by simp (disch := omega) only [maxN, hF, natc, Int.ofNat_eq_natCast, w64_in, decide_eq_true_eq, decide_eq_false_iff_not, Int.toNat_natCast, Bool.not_eq_true', Bool.not_eq_false', not_true_eq_false, not_false_eq_true, Int.not_lt, Int.not_le, Bool.and_eq_true, Bool.or_eq_true, Int.ofNat_lt, Int.ofNat_le, Int.natCast_nonneg, Int.toNat_zero, Int.toNat_one, Classical.not_not, beq_self_eq_true, true_and, and_true]; first | done | assumption | omega | (simp only [natc] at *; omega)) ?_; cbv)
          | (intro (hmx : _ ≤ maxN); replace hmx : _ ≤ 17592186044416 := hmx; cbv)
          | (intro _; cbv)
        subst hQ; exact leaf_data rfl rfl ⟨rfl, rfl⟩
      · cbv
        repeat' first
          | ((refine bc_false (hl0 _) ?_); cbv)
          | ((refine Chk.mk hs10 ?_); cbv)
          | ((rw [hss]); cbv)
          | ((refine Chk.mk hcat ?_); cbv)
          | ((rw [hcv]); cbv)
          | ((rw [hq]); cbv)
          | ((refine bc_false (hq1 hl) ?_); cbv)
          | (refine Chk.mk trivial ?_; cbv)
          | (refine bc_true (by first | assumption | (simp (disch := omega) only [hF, natc, Int.ofNat_eq_natCast, w64_in, decide_eq_true_eq, decide_eq_false_iff_not, Int.toNat_natCast, Bool.not_eq_true', Bool.not_eq_false', not_true_eq_false, not_false_eq_true, Int.not_lt, Int.not_le, Bool.and_eq_true, Bool.or_eq_true, Int.ofNat_lt, Int.ofNat_le, Int.natCast_nonneg, Int.toNat_zero, Int.toNat_one, Classical.not_not, beq_self_eq_true, true_and, and_true]; first | done | assumption | omega | (simp only [natc] at *; omega))) ?_; cbv)
          | (refine bc_false (by first | assumption | (simp (disch := omega) only [hF, natc, Int.ofNat_eq_natCast, w64_in, decide_eq_true_eq, decide_eq_false_iff_not, Int.toNat_natCast, Bool.not_eq_true', Bool.not_eq_false', not_true_eq_false, not_false_eq_true, Int.not_lt, Int.not_le, Bool.and_eq_true, Bool.or_eq_true, Int.ofNat_lt, Int.ofNat_le, Int.natCast_nonneg, Int.toNat_zero, Int.toNat_one, Classical.not_not, beq_self_eq_true, true_and, and_true]; first | done | assumption | omega | (simp only [natc] at *; omega))) ?_; cbv)
          | (refine bc_split (fun h => ?_) (fun h => ?_) <;> (try simp (disch := omega) only [hF, natc, Int.ofNat_eq_natCast, w64_in, decide_eq_true_eq, decide_eq_false_iff_not, Int.toNat_natCast, Bool.not_eq_true', Bool.not_eq_false', not_true_eq_false, not_false_eq_true, Int.not_lt, Int.not_le, Bool.and_eq_true, Bool.or_eq_true, Int.ofNat_lt, Int.ofNat_le, Int.natCast_nonneg, Int.toNat_zero, Int.toNat_one, Classical.not_not, beq_self_eq_true, true_and, and_true] at h) <;> cbv)
          | (refine IdxVC.mk (by simp (disch := omega) only [hF, natc, Int.ofNat_eq_natCast, w64_in, decide_eq_true_eq, decide_eq_false_iff_not, Int.toNat_natCast, Bool.not_eq_true', Bool.not_eq_false', not_true_eq_false, not_false_eq_true, Int.not_lt, Int.not_le, Bool.and_eq_true, Bool.or_eq_true, Int.ofNat_lt, Int.ofNat_le, Int.natCast_nonneg, Int.toNat_zero, Int.toNat_one, Classical.not_not, beq_self_eq_true, true_and, and_true]; first | done | omega | (simp only [natc] at *; omega)) (fun kx hk hk2 => ?_); simp (disch := omega) only [hF, natc, Int.ofNat_eq_natCast, w64_in, decide_eq_true_eq, decide_eq_false_iff_not, Int.toNat_natCast, Bool.not_eq_true', Bool.not_eq_false', not_true_eq_false, not_false_eq_true, Int.not_lt, Int.not_le, Bool.and_eq_true, Bool.or_eq_true, Int.ofNat_lt, Int.ofNat_le, Int.natCast_nonneg, Int.toNat_zero, Int.toNat_one, Classical.not_not, beq_self_eq_true, true_and, and_true] at hk; (try obtain rfl : kx = 0 := hk); cbv)
          | (refine Chk.mk (by simp (disch := omega) only [maxN, hF, natc, Int.ofNat_eq_natCast, w64_in, decide_eq_true_eq, decide_eq_false_iff_not, Int.toNat_natCast, Bool.not_eq_true', Bool.not_eq_false', not_true_eq_false, not_false_eq_true, Int.not_lt, Int.not_le, Bool.and_eq_true, Bool.or_eq_true, Int.ofNat_lt, Int.ofNat_le, Int.natCast_nonneg, Int.toNat_zero, Int.toNat_one, Classical.not_not, beq_self_eq_true, true_and, and_true]; first | done | assumption | omega | (simp only [natc] at *; omega)) ?_; cbv)
          | (intro (hmx : _ ≤ maxN); replace hmx : _ ≤ 17592186044416 := hmx; cbv)
          | (intro _; cbv)
        exact hN _ (l1, c :: s) ⟨hmore hl, hl10⟩ (hlt hl) (Ent.env (by cbv; simp))
    · have hnl := hnl m (by omega)
      by_cases hl : l < 10
      · have hfin := (hfin _ (hdone hl)).1 hn
        have hp45 := hpc45 _ (hlen1 hl)
        cbv
        repeat' first
          | ((refine bc_true hnl ?_); cbv)
          | ((rw [hns]); cbv)
          | ((refine Chk.mk hs10 ?_); cbv)
          | ((rw [hss]); cbv)
          | ((refine Chk.mk hcat ?_); cbv)
          | ((rw [hcv]); cbv)
          | ((rw [hq]); cbv)
          | ((refine bc_true (hq0 hl) ?_); cbv)
          | ((refine Chk.mk hp45 ?_); cbv)
          | ((rw [hfin]); cbv)
          | (refine Chk.mk trivial ?_; cbv)
          | (refine bc_true (by first | assumption | (simp (disch := omega) only [hF, natc, Int.ofNat_eq_natCast, w64_in, decide_eq_true_eq, decide_eq_false_iff_not, Int.toNat_natCast, Bool.not_eq_true', Bool.not_eq_false', not_true_eq_false, not_false_eq_true, Int.not_lt, Int.not_le, Bool.and_eq_true, Bool.or_eq_true, Int.ofNat_lt, Int.ofNat_le, Int.natCast_nonneg, Int.toNat_zero, Int.toNat_one, Classical.not_not, beq_self_eq_true, true_and, and_true]; first | done | assumption | omega | (simp only [natc] at *; omega))) ?_; cbv)
          | (refine bc_false (by first | assumption | (simp (disch := omega) only [hF, natc, Int.ofNat_eq_natCast, w64_in, decide_eq_true_eq, decide_eq_false_iff_not, Int.toNat_natCast, Bool.not_eq_true', Bool.not_eq_false', not_true_eq_false, not_false_eq_true, Int.not_lt, Int.not_le, Bool.and_eq_true, Bool.or_eq_true, Int.ofNat_lt, Int.ofNat_le, Int.natCast_nonneg, Int.toNat_zero, Int.toNat_one, Classical.not_not, beq_self_eq_true, true_and, and_true]; first | done | assumption | omega | (simp only [natc] at *; omega))) ?_; cbv)
          | (refine bc_split (fun h => ?_) (fun h => ?_) <;> (try simp (disch := omega) only [hF, natc, Int.ofNat_eq_natCast, w64_in, decide_eq_true_eq, decide_eq_false_iff_not, Int.toNat_natCast, Bool.not_eq_true', Bool.not_eq_false', not_true_eq_false, not_false_eq_true, Int.not_lt, Int.not_le, Bool.and_eq_true, Bool.or_eq_true, Int.ofNat_lt, Int.ofNat_le, Int.natCast_nonneg, Int.toNat_zero, Int.toNat_one, Classical.not_not, beq_self_eq_true, true_and, and_true] at h) <;> cbv)
          | (refine IdxVC.mk (by simp (disch := omega) only [hF, natc, Int.ofNat_eq_natCast, w64_in, decide_eq_true_eq, decide_eq_false_iff_not, Int.toNat_natCast, Bool.not_eq_true', Bool.not_eq_false', not_true_eq_false, not_false_eq_true, Int.not_lt, Int.not_le, Bool.and_eq_true, Bool.or_eq_true, Int.ofNat_lt, Int.ofNat_le, Int.natCast_nonneg, Int.toNat_zero, Int.toNat_one, Classical.not_not, beq_self_eq_true, true_and, and_true]; first | done | omega | (simp only [natc] at *; omega)) (fun kx hk hk2 => ?_); simp (disch := omega) only [hF, natc, Int.ofNat_eq_natCast, w64_in, decide_eq_true_eq, decide_eq_false_iff_not, Int.toNat_natCast, Bool.not_eq_true', Bool.not_eq_false', not_true_eq_false, not_false_eq_true, Int.not_lt, Int.not_le, Bool.and_eq_true, Bool.or_eq_true, Int.ofNat_lt, Int.ofNat_le, Int.natCast_nonneg, Int.toNat_zero, Int.toNat_one, Classical.not_not, beq_self_eq_true, true_and, and_true] at hk; (try obtain rfl : kx = 0 := hk); cbv)
          | (refine Chk.mk (by simp (disch := omega) only [maxN, hF, natc, Int.ofNat_eq_natCast, w64_in, decide_eq_true_eq, decide_eq_false_iff_not, Int.toNat_natCast, Bool.not_eq_true', Bool.not_eq_false', not_true_eq_false, not_false_eq_true, Int.not_lt, Int.not_le, Bool.and_eq_true, Bool.or_eq_true, Int.ofNat_lt, Int.ofNat_le, Int.natCast_nonneg, Int.toNat_zero, Int.toNat_one, Classical.not_not, beq_self_eq_true, true_and, and_true]; first | done | assumption | omega | (simp only [natc] at *; omega)) ?_; cbv)
          | (intro (hmx : _ ≤ maxN); replace hmx : _ ≤ 17592186044416 := hmx; cbv)
          | (intro _; cbv)
        subst hQ; exact leaf_data rfl rfl ⟨rfl, rfl⟩
      · cbv
        repeat' first
          | ((refine bc_true hnl ?_); cbv)
          | ((rw [hns]); cbv)
          | ((refine Chk.mk hs10 ?_); cbv)
          | ((rw [hss]); cbv)
          | ((refine Chk.mk hcat ?_); cbv)
          | ((rw [hcv]); cbv)
          | ((rw [hq]); cbv)
          | ((refine bc_false (hq1 hl) ?_); cbv)
          | (refine Chk.mk trivial ?_; cbv)
          | (refine bc_true (by first | assumption | (simp (disch := omega) only [hF, natc, Int.ofNat_eq_natCast, w64_in, decide_eq_true_eq, decide_eq_false_iff_not, Int.toNat_natCast, Bool.not_eq_true', Bool.not_eq_false', not_true_eq_false, not_false_eq_true, Int.not_lt, Int.not_le, Bool.and_eq_true, Bool.or_eq_true, Int.ofNat_lt, Int.ofNat_le, Int.natCast_nonneg, Int.toNat_zero, Int.toNat_one, Classical.not_not, beq_self_eq_true, true_and, and_true]; first | done | assumption | omega | (simp only [natc] at *; omega))) ?_; cbv)
          | (refine bc_false (by first | assumption | (simp (disch := omega) only [hF, natc, Int.ofNat_eq_natCast, w64_in, decide_eq_true_eq, decide_eq_false_iff_not, Int.toNat_natCast, Bool.not_eq_true', Bool.not_eq_false', not_true_eq_false, not_false_eq_true, Int.not_lt, Int.not_le, Bool.and_eq_true, Bool.or_eq_true, Int.ofNat_lt, Int.ofNat_le, Int.natCast_nonneg, Int.toNat_zero, Int.toNat_one, Classical.not_not, beq_self_eq_true, true_and, and_true]; first | done | assumption | omega | (simp only [natc] at *; omega))) ?_; cbv)
          | (refine bc_split (fun h => ?_) (fun h => ?_) <;> (try simp (disch := omega) only [hF, natc, Int.ofNat_eq_natCast, w64_in, decide_eq_true_eq, decide_eq_false_iff_not, Int.toNat_natCast, Bool.not_eq_true', Bool.not_eq_false', not_true_eq_false, not_false_eq_true, Int.not_lt, Int.not_le, Bool.and_eq_true, Bool.or_eq_true, Int.ofNat_lt, Int.ofNat_le, Int.natCast_nonneg, Int.toNat_zero, Int.toNat_one, Classical.not_not, beq_self_eq_true, true_and, and_true] at h) <;> cbv)
          | (refine IdxVC.mk (by simp (disch := omega) only [hF, natc, Int.ofNat_eq_natCast, w64_in, decide_eq_true_eq, decide_eq_false_iff_not, Int.toNat_natCast, Bool.not_eq_true', Bool.not_eq_false', not_true_eq_false, not_false_eq_true, Int.not_lt, Int.not_le, Bool.and_eq_true, Bool.or_eq_true, Int.ofNat_lt, Int.ofNat_le, Int.natCast_nonneg, Int.toNat_zero, Int.toNat_one, Classical.not_not, beq_self_eq_true, true_and, and_true]; first | done | omega | (simp only [natc] at *; omega)) (fun kx hk hk2 => ?_); simp (disch := omega) only [hF, natc, Int.ofNat_eq_natCast, w64_in, decide_eq_true_eq, decide_eq_false_iff_not, Int.toNat_natCast, Bool.not_eq_true', Bool.not_eq_false', not_true_eq_false, not_false_eq_true, Int.not_lt, Int.not_le, Bool.and_eq_true, Bool.or_eq_true, Int.ofNat_lt, Int.ofNat_le, Int.natCast_nonneg, Int.toNat_zero, Int.toNat_one, Classical.not_not, beq_self_eq_true, true_and, and_true] at hk; (try obtain rfl : kx = 0 := hk); cbv)
          | (refine Chk.mk (by simp (disch := omega) only [maxN, hF, natc, Int.ofNat_eq_natCast, w64_in, decide_eq_true_eq, decide_eq_false_iff_not, Int.toNat_natCast, Bool.not_eq_true', Bool.not_eq_false', not_true_eq_false, not_false_eq_true, Int.not_lt, Int.not_le, Bool.and_eq_true, Bool.or_eq_true, Int.ofNat_lt, Int.ofNat_le, Int.natCast_nonneg, Int.toNat_zero, Int.toNat_one, Classical.not_not, beq_self_eq_true, true_and, and_true]; first | done | assumption | omega | (simp only [natc] at *; omega)) ?_; cbv)
          | (intro (hmx : _ ≤ maxN); replace hmx : _ ≤ 17592186044416 := hmx; cbv)
          | (intro _; cbv)
        exact hN _ (l1, c :: s) ⟨hmore hl, hl10⟩ (hlt hl) (Ent.env (by cbv; simp))
  · rw [hr hn]
    by_cases hl : l < 10
    · have hfin := (hfin _ (hdone hl)).2 hn
      cbv
      repeat' first
        | ((refine bc_false (hl0 m) ?_); cbv)
        | ((refine Chk.mk hs10 ?_); cbv)
        | ((rw [hss]); cbv)
        | ((refine Chk.mk hcat ?_); cbv)
        | ((rw [hcv]); cbv)
        | ((rw [hq]); cbv)
        | ((refine bc_true (hq0 hl) ?_); cbv)
        | (refine Chk.mk trivial ?_; cbv)
        | (refine bc_true (by first | assumption | (simp (disch := omega) only [hF, natc, Int.ofNat_eq_natCast, w64_in, decide_eq_true_eq, decide_eq_false_iff_not, Int.toNat_natCast, Bool.not_eq_true', Bool.not_eq_false', not_true_eq_false, not_false_eq_true, Int.not_lt, Int.not_le, Bool.and_eq_true, Bool.or_eq_true, Int.ofNat_lt, Int.ofNat_le, Int.natCast_nonneg, Int.toNat_zero, Int.toNat_one, Classical.not_not, beq_self_eq_true, true_and, and_true]; first | done | assumption | omega | (simp only [natc] at *; omega))) ?_; cbv)
        | (refine bc_false (by first | assumption | (simp (disch := omega) only [hF, natc, Int.ofNat_eq_natCast, w64_in, decide_eq_true_eq, decide_eq_false_iff_not, Int.toNat_natCast, Bool.not_eq_true', Bool.not_eq_false', not_true_eq_false, not_false_eq_true, Int.not_lt, Int.not_le, Bool.and_eq_true, Bool.or_eq_true, Int.ofNat_lt, Int.ofNat_le, Int.natCast_nonneg, Int.toNat_zero, Int.toNat_one, Classical.not_not, beq_self_eq_true, true_and, and_true]; first | done | assumption | omega | (simp only [natc] at *; omega))) ?_; cbv)
        | (refine bc_split (fun h => ?_) (fun h => ?_) <;> (try simp (disch := omega) only [hF, natc, Int.ofNat_eq_natCast, w64_in, decide_eq_true_eq, decide_eq_false_iff_not, Int.toNat_natCast, Bool.not_eq_true', Bool.not_eq_false', not_true_eq_false, not_false_eq_true, Int.not_lt, Int.not_le, Bool.and_eq_true, Bool.or_eq_true, Int.ofNat_lt, Int.ofNat_le, Int.natCast_nonneg, Int.toNat_zero, Int.toNat_one, Classical.not_not, beq_self_eq_true, true_and, and_true] at h) <;> cbv)
        | (refine IdxVC.mk (by simp (disch := omega) only [hF, natc, Int.ofNat_eq_natCast, w64_in, decide_eq_true_eq, decide_eq_false_iff_not, Int.toNat_natCast, Bool.not_eq_true', Bool.not_eq_false', not_true_eq_false, not_false_eq_true, Int.not_lt, Int.not_le, Bool.and_eq_true, Bool.or_eq_true, Int.ofNat_lt, Int.ofNat_le, Int.natCast_nonneg, Int.toNat_zero, Int.toNat_one, Classical.not_not, beq_self_eq_true, true_and, and_true]; first | done | omega | (simp only [natc] at *; omega)) (fun kx hk hk2 => ?_); simp (disch := omega) only [hF, natc, Int.ofNat_eq_natCast, w64_in, decide_eq_true_eq, decide_eq_false_iff_not, Int.toNat_natCast, Bool.not_eq_true', Bool.not_eq_false', not_true_eq_false, not_false_eq_true, Int.not_lt, Int.not_le, Bool.and_eq_true, Bool.or_eq_true, Int.ofNat_lt, Int.ofNat_le, Int.natCast_nonneg, Int.toNat_zero, Int.toNat_one, Classical.not_not, beq_self_eq_true, true_and, and_true] at hk; (try obtain rfl : kx = 0 := hk); cbv)
        | (refine Chk.mk (by simp (disch := omega) only [maxN, hF, natc, Int.ofNat_eq_natCast, w64_in, decide_eq_true_eq, decide_eq_false_iff_not, Int.toNat_natCast, Bool.not_eq_true', Bool.not_eq_false', not_true_eq_false, not_false_eq_true, Int.not_lt, Int.not_le, Bool.and_eq_true, Bool.or_eq_true, Int.ofNat_lt, Int.ofNat_le, Int.natCast_nonneg, Int.toNat_zero, Int.toNat_one, Classical.not_not, beq_self_eq_true, true_and, and_true]; first | done | assumption | omega | (simp only [natc] at *; omega)) ?_; cbv)
        | (intro (hmx : _ ≤ maxN); replace hmx : _ ≤ 17592186044416 := hmx; cbv)
        | (intro _; cbv)
      subst hQ; rw [hfin]; exact leaf_data rfl rfl ⟨rfl, rfl⟩
    · cbv
      repeat' first
        | ((refine bc_false (hl0 m) ?_); cbv)
        | ((refine Chk.mk hs10 ?_); cbv)
        | ((rw [hss]); cbv)
        | ((refine Chk.mk hcat ?_); cbv)
        | ((rw [hcv]); cbv)
        | ((rw [hq]); cbv)
        | ((refine bc_false (hq1 hl) ?_); cbv)
        | (refine Chk.mk trivial ?_; cbv)
        | (refine bc_true (by first | assumption | (simp (disch := omega) only [hF, natc, Int.ofNat_eq_natCast, w64_in, decide_eq_true_eq, decide_eq_false_iff_not, Int.toNat_natCast, Bool.not_eq_true', Bool.not_eq_false', not_true_eq_false, not_false_eq_true, Int.not_lt, Int.not_le, Bool.and_eq_true, Bool.or_eq_true, Int.ofNat_lt, Int.ofNat_le, Int.natCast_nonneg, Int.toNat_zero, Int.toNat_one, Classical.not_not, beq_self_eq_true, true_and, and_true]; first | done | assumption | omega | (simp only [natc] at *; omega))) ?_; cbv)
        | (refine bc_false (by first | assumption | (simp (disch := omega) only [hF, natc, Int.ofNat_eq_natCast, w64_in, decide_eq_true_eq, decide_eq_false_iff_not, Int.toNat_natCast, Bool.not_eq_true', Bool.not_eq_false', not_true_eq_false, not_false_eq_true, Int.not_lt, Int.not_le, Bool.and_eq_true, Bool.or_eq_true, Int.ofNat_lt, Int.ofNat_le, Int.natCast_nonneg, Int.toNat_zero, Int.toNat_one, Classical.not_not, beq_self_eq_true, true_and, and_true]; first | done | assumption | omega | (simp only [natc] at *; omega))) ?_; cbv)
        | (refine bc_split (fun h => ?_) (fun h => ?_) <;> (try simp (disch := omega) only [hF, natc, Int.ofNat_eq_natCast, w64_in, decide_eq_true_eq, decide_eq_false_iff_not, Int.toNat_natCast, Bool.not_eq_true', Bool.not_eq_false', not_true_eq_false, not_false_eq_true, Int.not_lt, Int.not_le, Bool.and_eq_true, Bool.or_eq_true, Int.ofNat_lt, Int.ofNat_le, Int.natCast_nonneg, Int.toNat_zero, Int.toNat_one, Classical.not_not, beq_self_eq_true, true_and, and_true] at h) <;> cbv)
        | (refine IdxVC.mk (by simp (disch := omega) only [hF, natc, Int.ofNat_eq_natCast, w64_in, decide_eq_true_eq, decide_eq_false_iff_not, Int.toNat_natCast, Bool.not_eq_true', Bool.not_eq_false', not_true_eq_false, not_false_eq_true, Int.not_lt, Int.not_le, Bool.and_eq_true, Bool.or_eq_true, Int.ofNat_lt, Int.ofNat_le, Int.natCast_nonneg, Int.toNat_zero, Int.toNat_one, Classical.not_not, beq_self_eq_true, true_and, and_true]; first | done | omega | (simp only [natc] at *; omega)) (fun kx hk hk2 => ?_); simp (disch := omega) only [hF, natc, Int.ofNat_eq_natCast, w64_in, decide_eq_true_eq, decide_eq_false_iff_not, Int.toNat_natCast, Bool.not_eq_true', Bool.not_eq_false', not_true_eq_false, not_false_eq_true, Int.not_lt, Int.not_le, Bool.and_eq_true, Bool.or_eq_true, Int.ofNat_lt, Int.ofNat_le, Int.natCast_nonneg, Int.toNat_zero, Int.toNat_one, Classical.not_not, beq_self_eq_true, true_and, and_true] at hk; (try obtain rfl : kx = 0 := hk); cbv)
        | (refine Chk.mk (by simp (disch := omega) only [maxN, hF, natc, Int.ofNat_eq_natCast, w64_in, decide_eq_true_eq, decide_eq_false_iff_not, Int.toNat_natCast, Bool.not_eq_true', Bool.not_eq_false', not_true_eq_false, not_false_eq_true, Int.not_lt, Int.not_le, Bool.and_eq_true, Bool.or_eq_true, Int.ofNat_lt, Int.ofNat_le, Int.natCast_nonneg, Int.toNat_zero, Int.toNat_one, Classical.not_not, beq_self_eq_true, true_and, and_true]; first | done | assumption | omega | (simp only [natc] at *; omega)) ?_; cbv)
        | (intro (hmx : _ ≤ maxN); replace hmx : _ ≤ 17592186044416 := hmx; cbv)
        | (intro _; cbv)
      exact hN _ (l1, c :: s) ⟨hmore hl, hl10⟩ (hlt hl) (Ent.env (by cbv; simp))

end Go.Proofs.YtophlodlencgiaaDoor
