/-
  A giver that is nil sends nothing: GiverNobody. It answers true at every input, and leaves its argument as it was; the listed tables are as the program's text lays them (the tie is given). No other condition.
-/
import Derived.Test.YtjfkoehlhgdmgaaDoorRows
import Derived.Test.YtjfkoehlhgdmgaaDoorCards
import Derived.Test.YtjfkoehlhgdmgaaDoorTie
import Derived.Test.YtjfkoehlhgdmgaaDoorVcgW
import Derived.Test.YtjfkoehlhgdmgaaDoorGnD
import Derived.LaidMore
import Derived.LaidHandle
import Derived.SevenTiedAt
namespace Go.Proofs.YtjfkoehlhgdmgaaDoor
open Go.V

theorem own : ownKnob Tryd.prog.godebug = none := by kernel_rfl
theorem laidOut : laidOutB Tryd.prog = true := by kernel_rfl
theorem f3_size : Tryd.f3.params.size = 1 := by kernel_rfl

theorem GiverNobody_spec {H : Type} (ds : List (DataW H)) (h : ds.length = 1) : Rows.giverNobodySpec.fn H ds = { results := [.lit (.bool true)], args := ds } := by
  match ds, h with
  | [a], _ => rfl

theorem gT0 : Tryd.prog.globalNamed "math/bits.deBruijn64tab" = some 1 := by kernel_rfl
theorem tT0 : (Tryd.prog.globals[1]?).map (·.type) = some 93 := by kernel_rfl
theorem tab0 : ∀ i : Fin 64, (([0, 1, 56, 2, 57, 49, 28, 3, 61, 58, 42, 50, 38, 29, 17, 4, 62, 47, 59, 36, 45, 43, 51, 22, 53, 39, 33, 30, 24, 18, 12, 5, 63, 55, 48, 27, 60, 41, 37, 16, 46, 35, 44, 21, 52, 32, 23, 11, 54, 26, 40, 15, 34, 20, 31, 10, 25, 14, 19, 9, 13, 8, 7, 6] : List Int).getD i.val 0) = (tzT) i.val := by decide +kernel
theorem gT1 : Tryd.prog.globalNamed "switchyard/plot.ahead" = some 0 := by kernel_rfl
theorem tT1 : (Tryd.prog.globals[0]?).map (·.type) = some 90 := by kernel_rfl
theorem tab1 : ∀ i : Fin 9, (([0, 0, 0, 0, 0, 0, 1, 2, 3] : List Int).getD i.val 0) = (aheadT) i.val := by decide +kernel

theorem door_met (os : Os) (args : Array Value) : laidMetH Tryd.prog Rows.giverNobodyRow.laid ((World.doorLaid Tryd.prog 400 os).forCall (fun _ _ => 0) ⟨#[], args, []⟩).memory :=
  laidMetH_of_parts3 (fuel := 8) (laidMet_of_run' 8 (by kernel_rfl) (by kernel_rfl)) (by kernel_rfl) (by kernel_rfl)

theorem tabs_of {W : World} (h : laidMetH Tryd.prog Rows.giverNobodyRow.laid W) : Tabs (Objs.gd Ob) (· < W.heap.size) W := by
  rw [MakeChecks.laidMetH_plain _ _ _ (by kernel_rfl)] at h
  obtain ⟨ps, ⟨g0, t0, cs0, f0, p0, q0, hg0, ht0, hv0, hd0, ⟨g1, t1, cs1, f1, p1, q1, hg1, ht1, hv1, hd1, _, _⟩, _⟩, _⟩ := h
  obtain rfl := Option.some.inj (gT0.symm.trans hg0)
  obtain rfl := Option.some.inj (tT0.symm.trans ht0)
  obtain ⟨hlt0, ty0, fz0, hb0, hsz0, _, hc0⟩ := laid_ints (k := .u8) (n := 64) (e := 5) (ns := [0, 1, 56, 2, 57, 49, 28, 3, 61, 58, 42, 50, 38, 29, 17, 4, 62, 47, 59, 36, 45, 43, 51, 22, 53, 39, 33, 30, 24, 18, 12, 5, 63, 55, 48, 27, 60, 41, 37, 16, 46, 35, 44, 21, 52, 32, 23, 11, 54, 26, 40, 15, 34, 20, 31, 10, 25, 14, 19, 9, 13, 8, 7, 6]) hg0 (by kernel_rfl) (by kernel_rfl) (by kernel_rfl) hv0 hd0
  obtain rfl := Option.some.inj (gT1.symm.trans hg1)
  obtain rfl := Option.some.inj (tT1.symm.trans ht1)
  obtain ⟨hlt1, ty1, fz1, hb1, hsz1, _, hc1⟩ := laid_ints (k := .i64) (n := 9) (e := 3) (ns := [0, 0, 0, 0, 0, 0, 1, 2, 3]) hg1 (by kernel_rfl) (by kernel_rfl) (by kernel_rfl) hv1 hd1
  intro g n sz at_ hgd
  match g, hgd with
  | 0, hgd =>
    cases hgd
    refine ⟨hlt1, cs1, ty1, fz1, hb1, by omega, fun i f hi hf => ?_⟩
    obtain rfl : f = 0 := by omega
    rw [Nat.mul_one, Nat.add_zero, hc1 i hi]
    exact congrArg (Value.int .i64) (tab1 ⟨i, hi⟩)
  | 1, hgd =>
    cases hgd
    refine ⟨hlt0, cs0, ty0, fz0, hb0, by omega, fun i f hi hf => ?_⟩
    obtain rfl : f = 0 := by omega
    rw [Nat.mul_one, Nat.add_zero, hc0 i hi]
    exact congrArg (Value.int .u8) (tab0 ⟨i, hi⟩)
  | _ + 2, hgd => cases hgd

theorem GiverNobody_lifted (os : Os) (started : os.Started) (H : Type) (enc : TypeId × Value → H) :
    ReturnsInHanded {} Tryd.checked os n_law16_GiverNobody .any (fun w args => (Rows.giverNobodySpec.pre enc Tryd.prog Tryd.f3 [] false w args ∧ laidMetH Tryd.prog Rows.giverNobodyRow.laid w) ∧ sizedMet enc Tryd.prog Tryd.f3 (OpenSpec.ofChange Rows.giverNobodySpec) false w args)
      (Rows.giverNobodySpec.post enc Tryd.prog Tryd.f3 false true false false) := by
  refine law_lifted_laid (C := Tryd.checked) (L := [(false, [.slice [.int .i64]])]) (tb := 4) own started (by kernel_rfl) Tryd.func3
    (ChangeSpec.witness_shaped (enc := enc) (C := Tryd.checked) (os := os) (X := fun w _ => laidMetH Tryd.prog Rows.giverNobodyRow.laid w) false (World.doorLaid Tryd.prog 400 os) #[.slice Option.none 0 0] 8 rfl (World.shaped_of_RefB (by kernel_rfl) (by kernel_rfl)) (by kernel_rfl) (by kernel_rfl) (by kernel_rfl) (door_met os _))
    rfl (fun ds hds => ?_) laidOut (by kernel_rfl) (by kernel_rfl) (by kernel_rfl) (by kernel_rfl) (fun W h => tabs_of h) ?_
  · exact GiverNobody_spec ds (Eq.trans hds f3_size)
  · intro gs hg
    obtain ⟨g, rfl, ⟨n, l, e0, hn, hl⟩, _⟩ := hasArgs_one hg
    have e0 : g 0 = .seq n 1 l := e0
    have hx : ∀ i, ∃ x, i < n → l i 0 = .int .i64 x := by
      intro i
      by_cases hi : i < n
      · obtain ⟨⟨x, _, e⟩, _⟩ := hl i hi
        exact ⟨x, fun _ => e⟩
      · exact ⟨0, fun h => (hi h).elim⟩
    obtain ⟨x0, hx⟩ := Classical.axiomOfChoice hx
    show CallOK PR n_law16_GiverNobody [.dv (g 0)] [] fun r _ => r = .dv (.bool true)
    rw [e0]
    exact (ok_GiverNobody (show n ≤ 17592186044416 from hn) x0 hx).ent fun r m h => ⟨r, m, Ent.refl _ _, h.1⟩

theorem GiverNobody_row : Rows.GiverNobodySaid :=
  OpenClaim.holds_of_wide n_law16_GiverNobody Tryd.f3 rfl rfl rfl rfl rfl rfl rfl ⟨rfl, rfl, rfl, rfl, rfl⟩ rfl rfl rfl rfl rfl (by kernel_rfl) Tryd.func3 (by kernel_rfl)
    (of_decide_eq_true (by kernel_rfl)) (by unfold Func.isWrapper; first | (rw [if_pos (by decide +kernel)]; kernel_rfl) | (rw [if_neg (by decide +kernel)]; exact ⟨rfl, rfl⟩))
    (fun os started H enc _ => GiverNobody_lifted os started H enc)

theorem no_stand : Tryd.f3.params.toList.all (fun t => !Tryd.prog.wantsStandIn t) = true := by kernel_rfl

theorem GiverNobody_holds : Rows.GiverNobodyCardSaid :=
  Claim7.holds_tied_plain_at .later [] [.data, .data] true (true, "55be5806fcb3ea477ca26a1bf6173b609ae7900a34a94d0e0cff76deef2c5c17") false
    GiverNobody_row (fun _ h => by cases h) (by kernel_rfl) (fun _ h => by cases h) giverNobody_row_tie rfl ⟨rfl, rfl⟩ (by kernel_rfl) rfl
    (fun f fn hf hfn => by
      obtain rfl : n_law16_GiverNobody = f := Option.some.inj ((show Tryd.prog.funcNamed "switchyard/switchyardlaw16.GiverNobody" = some n_law16_GiverNobody by kernel_rfl).symm.trans hf)
      obtain rfl : Tryd.f3 = fn := Option.some.inj (Tryd.func3.symm.trans hfn)
      exact ⟨by kernel_rfl, fun j t ht => by
        have h1 := List.all_eq_true.1 no_stand t (List.mem_of_getElem? (by simpa using ht))
        exact (by simpa using h1 : Tryd.prog.wantsStandIn t = false)⟩)
    (by kernel_rfl)

#print axioms GiverNobody_holds
end Go.Proofs.YtjfkoehlhgdmgaaDoor
