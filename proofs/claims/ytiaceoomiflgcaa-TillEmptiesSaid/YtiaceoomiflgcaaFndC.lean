/-
  The last cell of an address.
-/
import Derived.Test.YtiaceoomiflgcaaFndB
namespace Go.Proofs.Ytiaceoomiflgcaa
open Go.V Go.RowKit Go.Shelf
attribute [local go_sem] Oper.semAt_some

/-- The round's cell, its parts. -/
def qb (ps : List (Option (Int × Int))) (j : Nat) : Option (Int × Int) := ps[ps.length - 1 - j]?.getD (some (0, 0))

theorem parts0 : partsO (0, 0) = some (some (0, 0)) := by kernel_rfl

theorem qb_parts {zs : List (Nat × Nat)} {ps : List (Option (Int × Int))} (h : cellsO zs = some ps) (j : Nat) : partsO (fb zs j).2 = some (qb ps j) := by
  have hl := cellsO_length h
  unfold fb qb
  rw [hl]
  cases hz : zs[zs.length - 1 - j]? with
  | none =>
    have : ps[zs.length - 1 - j]? = none := by
      rw [List.getElem?_eq_none_iff] at hz ⊢
      omega
    rw [this]
    exact parts0
  | some z =>
    obtain ⟨p, hp, e⟩ := cellsO_get h hz
    rw [hp]
    exact e

theorem find_none {x : Int} {ps : List (Option (Int × Int))} (h : ∀ j ∈ upto id ps.length, hit x (qb ps j) = none) : findO x ps = none := by
  refine findO_none fun c hc => ?_
  obtain ⟨i, hi⟩ := List.getElem?_of_mem hc
  have hlt : i < ps.length := (List.getElem?_eq_some_iff.1 hi).1
  have := h (ps.length - 1 - i) (by simp [upto]; omega)
  rw [qb, show ps.length - 1 - (ps.length - 1 - i) = i by omega, hi] at this
  exact this

theorem find_some {x w : Int} {ps : List (Option (Int × Int))} {k : Nat} (hk : k < ps.length) (h : ∀ j ∈ upto id k, hit x (qb ps j) = none) (hw : hit x (qb ps k) = some w) : findO x ps = some w := by
  have hlt : ps.length - 1 - k < ps.length := by omega
  refine findO_hit (i := ps.length - 1 - k) (c := qb ps k) (by simp [qb, hlt]) hw fun j d hj hd => ?_
  have hjl : j < ps.length := (List.getElem?_eq_some_iff.1 hd).1
  have := h (ps.length - 1 - j) (by simp [upto]; omega)
  rw [qb, show ps.length - 1 - (ps.length - 1 - j) = j by omega, hd] at this
  exact this

set_option maxRecDepth 100000 in
set_option maxHeartbeats 4000000 in
theorem Find_in {I : Nat → Prop} {w : World} (hT : Tabs (Objs.gd Ob) I w) (hI : ∀ b, I b → b < w.heap.size) (a : Option Addr) (len cap : Nat) (x : Int) (zs : List (Nat × Nat)) (ps : List (Option (Int × Int))) (hps : cellsO zs = some ps)
    (hreach : zs.length ≤ 140737488355328) (hC : Cpx w.heap.size w (.slice a len cap) zs) :
    CallsIn Fence.wide 5 PR n_cell_Find #[.slice a len cap, .int .i64 x] w fun e W' =>
      e = .returned (.tuple #[.int .i64 (foundO (findO x ps)).1, .bool (foundO (findO x ps)).2]) ∧ Below w.heap.size w W' := by
  have hro : Fence.wide.round = none := rfl
  have hb : Fence.wide.fn 94 := trivial
  have hp : Fence.wide.fn 84 := trivial
  refine callsIn_of_wp_marks Try.func87 rfl trivial ?_ hro
  simp only [Try.ntmps87, List.size_toArray, List.length_cons, List.length_nil, Nat.reduceAdd, Nat.reduceSub, Array.replicate_succ, Array.replicate_zero, List.push_toArray, List.append_toArray, List.nil_append, List.cons_append]
  gi_wp2_with (gi_at_call 94; refine (back_in Fence.wide 4 trivial hro _ _ _ _).mono ?_; rintro e w' ⟨rfl, rfl⟩)
  have bA := Boxed.new w 3 (.int .i64 x)
  have bR := Boxed.new (w.alloc (.cells #[.int .i64 x] 3)) 3 (.int .i64 0)
  have bO := Boxed.new ((w.alloc (.cells #[.int .i64 x] 3)).alloc (.cells #[.int .i64 0] 3)) 4 (.bool false)
  have bN := Boxed.new (((w.alloc (.cells #[.int .i64 x] 3)).alloc (.cells #[.int .i64 0] 3)).alloc (.cells #[.bool false] 4)) 96 (.slice a len cap)
  simp only [World.size_alloc] at bR bO bN
  generalize hW4 : ((((w.alloc (.cells #[.int .i64 x] 3)).alloc (.cells #[.int .i64 0] 3)).alloc (.cells #[.bool false] 4)).alloc (.cells #[.slice a len cap] 96)) = W4
  have ne1 : (⟨w.heap.size + 1 + 1, 0, none⟩ : Addr) ≠ ⟨w.heap.size + 1, 0, none⟩ := by intro h; injection h with h; omega
  have hs4 : W4.heap.size = w.heap.size + 4 := by rw [← hW4]; simp
  have hB0 : Below w.heap.size w W4 := by
    rw [← hW4]
    exact ((((Below.refl _ w).alloc (Nat.le_refl _) _).alloc (by simp) _).alloc (by simp; omega) _).alloc (by simp; omega) _
  have bA4 : Boxed W4 w.heap.size 3 (.int .i64 x) := by rw [← hW4]; exact ((bA.alloc _).alloc _).alloc _
  have bR4 : Boxed W4 (w.heap.size + 1) 3 (.int .i64 0) := by rw [← hW4]; exact (bR.alloc _).alloc _
  have bO4 : Boxed W4 (w.heap.size + 1 + 1) 4 (.bool false) := by rw [← hW4]; exact bO.alloc _
  have bN4 : Boxed W4 (w.heap.size + 1 + 1 + 1) 96 (.slice a len cap) := by rw [← hW4]; exact bN
  have hC4 : Cpx W4.heap.size W4 (.slice a len cap) zs := (hC.below hB0).mono (by omega)
  refine wpIn_rangeFunc_ownG hro (by omega) (gf := 95) (lb := #[.pointer (some ⟨w.heap.size + 1 + 1 + 1, 0, none⟩)]) rfl trivial (enters_of Try.func95 (by kernel_rfl) rfl)
    (back_stops Fence.wide 4 trivial hro (by omega) (w.heap.size + 1 + 1 + 1) W4.heap.size _ zs hreach W4 (by omega) (Nat.le_refl _) bN4.cell hC4) belowK_t (belowK_b (Nat.le_refl _)) (Below.refl _ _) (fun _ => rfl)
    (fun pre W => ((∀ j ∈ pre, hit x (qb ps j) = none) ∧ W.cell? ⟨w.heap.size, 0, none⟩ = some (.int .i64 x) ∧ (W.cell? ⟨w.heap.size + 1, 0, none⟩ = some (.int .i64 0) ∧ W.frozen? ⟨w.heap.size + 1, 0, none⟩ = false) ∧
      W.cell? ⟨w.heap.size + 1 + 1, 0, none⟩ = some (.bool false) ∧ W.frozen? ⟨w.heap.size + 1 + 1, 0, none⟩ = false ∧ W4.heap.size ≤ W.heap.size) ∧ Below w.heap.size w W)
    (fun c pre W => (c = .ret ∧ ∃ ini last v, pre = ini ++ [last] ∧ (∀ j ∈ ini, hit x (qb ps j) = none) ∧ hit x (qb ps last) = some v ∧ W.cell? ⟨w.heap.size + 1, 0, none⟩ = some (.int .i64 v) ∧
      W.cell? ⟨w.heap.size + 1 + 1, 0, none⟩ = some (.bool true)) ∧ Below w.heap.size w W)
    (OwnFrom.and (Own.from (fun s A B row hs hg hr => ⟨hs.1, cell_kept hs.2.1 hg hr, ⟨cell_kept hs.2.2.1.1 hg hr, (frozen_kept hs.2.2.1.1 hg hr).trans hs.2.2.1.2⟩, cell_kept hs.2.2.2.1 hg hr, (frozen_kept hs.2.2.2.1 hg hr).trans hs.2.2.2.2.1, Nat.le_trans hs.2.2.2.2.2 hg.size⟩) _) (ownFrom_below (Nat.le_refl _) (by omega)))
    (fun c => OwnFrom.and (Own.from (fun s A B row hs hg hr => by obtain ⟨hc, ini, last, v, e1, e2, e3, e4, e5⟩ := hs; exact ⟨hc, ini, last, v, e1, e2, e3, cell_kept e4 hg hr, cell_kept e5 hg hr⟩) _) (ownFrom_below (Nat.le_refl _) (by omega)))
    ⟨⟨by simp, bA4.cell, ⟨bR4.cell, bR4.frozen⟩, bO4.cell, bO4.frozen, Nat.le_refl _⟩, hB0⟩
    (fun j => { tmps := #[.slice a len cap, .int .i64 x, undef, .pointer (some ⟨w.heap.size, 0, none⟩), .pointer (some ⟨w.heap.size + 1, 0, none⟩), .pointer (some ⟨w.heap.size + 1 + 1, 0, none⟩), undef,
      .complex .f64 (fb zs j).2.1 (fb zs j).2.2, undef, undef, undef, .slice a len cap, .func (.func 95) #[] #[.pointer (some ⟨w.heap.size + 1 + 1 + 1, 0, none⟩)], .int .i64 (fb zs j).1, .complex .f64 (fb zs j).2.1 (fb zs j).2.2,
      undef, undef, undef, undef, undef, undef, undef, undef, undef, undef, undef, undef, undef], defers := [] }) ?assign ?body ?done ?stop
  case assign =>
    intro l j W K hK
    gi_wp2
    exact hK
  case body =>
    rintro l pre j W ⟨⟨hp, hcA, ⟨hcR, hfR⟩, hcO, hfO, hs⟩, hB⟩ _
    have hqb := qb_parts hps j
    gi_wp2
    refine (CallsIn.inRound l (Parts_calls hT hI hB _ _ hqb 2)).mono ?_
    rintro e W3 ⟨rfl, hB3⟩
    have kept : ∀ B, B < W.heap.size → W3.heap[B]? = W.heap[B]? := fun B hBl => hB3.block B hBl
    have lA : w.heap.size < W.heap.size := by obtain ⟨o, ho, _⟩ := cells_of_cell hcA; exact (Array.getElem?_eq_some_iff.1 ho).1
    have lR : w.heap.size + 1 < W.heap.size := by obtain ⟨o, ho, _⟩ := cells_of_cell hcR; exact (Array.getElem?_eq_some_iff.1 ho).1
    have lO : w.heap.size + 1 + 1 < W.heap.size := by obtain ⟨o, ho, _⟩ := cells_of_cell hcO; exact (Array.getElem?_eq_some_iff.1 ho).1
    have hcA3 := (hB3.cell (p := ⟨w.heap.size, 0, none⟩) lA).trans hcA
    have hcR3 := (hB3.cell (p := ⟨w.heap.size + 1, 0, none⟩) lR).trans hcR
    have hcO3 := (hB3.cell (p := ⟨w.heap.size + 1 + 1, 0, none⟩) lO).trans hcO
    have hfR3 : W3.frozen? ⟨w.heap.size + 1, 0, none⟩ = false := (World.frozen?_of_block (hB3.block _ lR)).trans hfR
    have hfO3 : W3.frozen? ⟨w.heap.size + 1 + 1, 0, none⟩ = false := (World.frozen?_of_block (hB3.block _ lO)).trans hfO
    have hkf : KeepsFrom W4.heap.size W W3 := ⟨hB3.size, fun k o _ hk _ => (hB3.block k (Array.getElem?_eq_some_iff.1 hk).1).trans hk⟩
    have hb4 : Below W4.heap.size W W3 := hB3.mono hs
    have hbw : Below w.heap.size w W3 := hB.trans (hB3.mono (by omega))
    have hs3 : W4.heap.size ≤ W3.heap.size := Nat.le_trans hs hB3.size
    have miss : hit x (qb ps j) = none → ∀ i ∈ pre ++ [j], hit x (qb ps i) = none := fun hm i hi =>
      (List.mem_append.1 hi).elim (hp i) (fun e => by simp at e; subst e; exact hm)
    cases hq : qb ps j with
    | none =>
      simp only [partsV]
      gi_wp2
      exact ⟨hkf, hb4, ⟨miss (by rw [hq]; rfl), hcA3, ⟨hcR3, hfR3⟩, hcO3, hfO3, hs3⟩, hbw⟩
    | some aw =>
      obtain ⟨a', v'⟩ := aw
      simp only [partsV]
      gi_wp2
      · have hx : a' = x := by simpa using (by assumption : (a' == x) = true)
        have hh : hit x (qb ps j) = some v' := by rw [hq]; simp [hit, hx]
        refine ⟨hkf.trans (((KeepsOthers.setCell W3 _ _).trans (KeepsOthers.setCell _ _ _)).from _), ⟨rfl, pre, j, v', rfl, hp, hh, ?_, ?_⟩, (hbw.setCell (p := ⟨w.heap.size + 1, 0, none⟩) (by simp) _).setCell (p := ⟨w.heap.size + 1 + 1, 0, none⟩) (by simp; omega) _⟩
        · rw [World.cell?_setCell_other (h := ne1)]
          exact World.cell?_setCell_same' _ _ _ (by rw [hcR3]; rfl)
        · exact World.cell?_setCell_same' _ _ _ (by rw [World.cell?_setCell_other (h := ne1.symm), hcO3]; rfl)
      · have hx : ¬ a' = x := by simpa using (by assumption : (a' == x) = false)
        exact ⟨hkf, hb4, ⟨miss (by rw [hq]; simp [hit, hx]), hcA3, ⟨hcR3, hfR3⟩, hcO3, hfO3, hs3⟩, hbw⟩
  case done =>
    rintro D ys W hD rfl ⟨⟨hne, hcA, ⟨hcR, hfR⟩, hcO, hfO, hs⟩, hB⟩ hK
    gi_wp2
    have hlen := cellsO_length hps
    have hK' := (KeepsOthers.setCell (W.setCell ⟨w.heap.size + 1, 0, none⟩ (.int .i64 0)) ⟨w.heap.size + 1 + 1, 0, none⟩ (.bool false)).same D _ ((KeepsOthers.setCell W ⟨w.heap.size + 1, 0, none⟩ (.int .i64 0)).same D _ hK rfl) rfl
    refine ⟨by simp, .inl ⟨_, _, rfl, run_takeDeferred hK', ?_⟩⟩
    have hO := World.cell?_setCell_same' (W.setCell ⟨w.heap.size + 1, 0, none⟩ (.int .i64 0)) ⟨w.heap.size + 1 + 1, 0, none⟩ (.bool false) (by rw [World.cell?_setCell_other (h := ne1.symm), hcO]; rfl)
    have hR : ((W.setCell ⟨w.heap.size + 1, 0, none⟩ (.int .i64 0)).setCell ⟨w.heap.size + 1 + 1, 0, none⟩ (.bool false)).cell? ⟨w.heap.size + 1, 0, none⟩ = some (.int .i64 0) := by
      rw [World.cell?_setCell_other (h := ne1)]
      exact World.cell?_setCell_same' _ _ _ (by rw [hcR]; rfl)
    have hO5 := cell_kept hO (grownBy_putObj' _ D (.deferred none)) (fun r e => by cases e; exact ⟨_, hK', rfl⟩)
    have hR5 := cell_kept hR (grownBy_putObj' _ D (.deferred none)) (fun r e => by cases e; exact ⟨_, hK', rfl⟩)
    have hf : findO x ps = none := find_none fun j hj => hne j (by rw [← hlen]; exact hj)
    refine ⟨.tuple #[.int .i64 0, .bool false], ?_, by rw [hf]; rfl, ((hB.setCell (p := ⟨w.heap.size + 1, 0, none⟩) (by simp) _).setCell (p := ⟨w.heap.size + 1 + 1, 0, none⟩) (by simp; omega) _).trans (belowK_b (w := w) (Nat.le_refl _) _ D _ _ (by omega) hK' rfl rfl)⟩
    simp [results, Try.f87, go_sem, hO5, hR5]
  case stop =>
    rintro D c pre W hD ⟨k, hk, rfl⟩ ⟨⟨rfl, ini, last, v, e1, e2, e3, hcR, hcO⟩, hB⟩ hK
    gi_wp2
    have hlen := cellsO_length hps
    refine ⟨by simp, .inl ⟨_, _, rfl, run_takeDeferred hK, ?_⟩⟩
    have hO5 := cell_kept hcO (grownBy_putObj' _ D (.deferred none)) (fun r e => by cases e; exact ⟨_, hK, rfl⟩)
    have hR5 := cell_kept hcR (grownBy_putObj' _ D (.deferred none)) (fun r e => by cases e; exact ⟨_, hK, rfl⟩)
    obtain ⟨k', rfl⟩ : ∃ k', k = k' + 1 := by
      cases k with
      | zero => simp [upto] at e1
      | succ k' => exact ⟨k', rfl⟩
    rw [upto_succ] at e1
    obtain ⟨rfl, e5⟩ := List.append_inj' e1 rfl
    obtain rfl : k' = last := by simpa using e5
    have hf : findO x ps = some v := find_some (by omega) e2 e3
    refine ⟨.tuple #[.int .i64 v, .bool true], ?_, by rw [hf]; rfl, hB.trans (belowK_b (w := w) (Nat.le_refl _) W D _ _ (by omega) hK rfl rfl)⟩
    simp [results, Try.f87, go_sem, hO5, hR5]

end Go.Proofs.Ytiaceoomiflgcaa
