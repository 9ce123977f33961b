/-
  A board that is nil has nothing: BoardNobody. It answers true at every input, and leaves its argument as it was; the listed tables are as the program's text lays them (the tie is given). No other condition.
-/
import Derived.Test.YtibjefabebjfdaaGreatDoorRows
import Derived.Test.YtibjefabebjfdaaGreatDoorCards
import Derived.Test.YtibjefabebjfdaaGreatDoorTie
import Derived.Test.YtibjefabebjfdaaGreatDoorVcgW
import Derived.Test.YtibjefabebjfdaaGreatDoorBoA
import Derived.LaidMore
import Derived.LaidHandle
import Derived.SevenTiedAt
namespace Go.Proofs.YtibjefabebjfdaaGreatDoor
open Go.V

theorem own : ownKnob Tryz.prog.godebug = none := by kernel_rfl
theorem laidOut : laidOutB Tryz.prog = true := by kernel_rfl
theorem f5_size : Tryz.f5.params.size = 1 := by kernel_rfl

theorem BoardNobody_spec {H : Type} (ds : List (DataW H)) (h : ds.length = 1) : Rows.boardNobodySpec.fn H ds = { results := [.lit (.bool true)], args := ds } := by
  match ds, h with
  | [a], _ => rfl

theorem gT0 : Tryz.prog.globalNamed "math/bits.deBruijn64tab" = some 6 := by kernel_rfl
theorem tT0 : (Tryz.prog.globals[6]?).map (·.type) = some 339 := by kernel_rfl
theorem tab0 : ∀ i : Fin 64, (([0, 1, 56, 2, 57, 49, 28, 3, 61, 58, 42, 50, 38, 29, 17, 4, 62, 47, 59, 36, 45, 43, 51, 22, 53, 39, 33, 30, 24, 18, 12, 5, 63, 55, 48, 27, 60, 41, 37, 16, 46, 35, 44, 21, 52, 32, 23, 11, 54, 26, 40, 15, 34, 20, 31, 10, 25, 14, 19, 9, 13, 8, 7, 6] : List Int).getD i.val 0) = (tzT) i.val := by decide +kernel
theorem gT1 : Tryz.prog.globalNamed "switchyard/plot.ahead" = some 0 := by kernel_rfl
theorem tT1 : (Tryz.prog.globals[0]?).map (·.type) = some 157 := by kernel_rfl
theorem tab1 : ∀ i : Fin 9, (([0, 0, 0, 0, 0, 0, 1, 2, 3] : List Int).getD i.val 0) = (aheadT) i.val := by decide +kernel

theorem door_met (os : Os) (args : Array Value) : laidMetH Tryz.prog Rows.boardNobodyRow.laid ((World.doorLaid Tryz.prog 400 os).forCall (fun _ _ => 0) ⟨#[], args, []⟩).memory :=
  laidMetH_of_parts3 (fuel := 8) (laidMet_of_run' 8 (by kernel_rfl) (by kernel_rfl)) (by kernel_rfl) (by kernel_rfl)

theorem tabs_of {W : World} (h : laidMetH Tryz.prog Rows.boardNobodyRow.laid W) : Tabs (Objs.gd Ob) (· < W.heap.size) W := by
  rw [MakeChecks.laidMetH_plain _ _ _ (by kernel_rfl)] at h
  obtain ⟨ps, ⟨g0, t0, cs0, f0, p0, q0, hg0, ht0, hv0, hd0, ⟨g1, t1, cs1, f1, p1, q1, hg1, ht1, hv1, hd1, _, _⟩, _⟩, _⟩ := h
  obtain rfl := Option.some.inj (gT0.symm.trans hg0)
  obtain rfl := Option.some.inj (tT0.symm.trans ht0)
  obtain ⟨hlt0, ty0, fz0, hb0, hsz0, _, hc0⟩ := laid_ints (k := .u8) (n := 64) (e := 5) (ns := [0, 1, 56, 2, 57, 49, 28, 3, 61, 58, 42, 50, 38, 29, 17, 4, 62, 47, 59, 36, 45, 43, 51, 22, 53, 39, 33, 30, 24, 18, 12, 5, 63, 55, 48, 27, 60, 41, 37, 16, 46, 35, 44, 21, 52, 32, 23, 11, 54, 26, 40, 15, 34, 20, 31, 10, 25, 14, 19, 9, 13, 8, 7, 6]) hg0 (by kernel_rfl) (by kernel_rfl) (by kernel_rfl) hv0 hd0
  obtain rfl := Option.some.inj (gT1.symm.trans hg1)
  obtain rfl := Option.some.inj (tT1.symm.trans ht1)
  obtain ⟨hlt1, ty1, fz1, hb1, hsz1, _, hc1⟩ := laid_ints (k := .i64) (n := 9) (e := 3) (ns := [0, 0, 0, 0, 0, 0, 1, 2, 3]) hg1 (by kernel_rfl) (by kernel_rfl) (by kernel_rfl) hv1 hd1
  intro g n sz at_ hgd
  match g, hgd with
  | 0, hgd =>
    cases hgd
    refine ⟨hlt1, cs1, ty1, fz1, hb1, by omega, fun i f hi hf => ?_⟩
    obtain rfl : f = 0 := by omega
    rw [Nat.mul_one, Nat.add_zero, hc1 i hi]
    exact congrArg (Value.int .i64) (tab1 ⟨i, hi⟩)
  | 1, hgd => cases hgd
  | 2, hgd => cases hgd
  | 3, hgd => cases hgd
  | 4, hgd => cases hgd
  | 5, hgd => cases hgd
  | 6, hgd =>
    cases hgd
    refine ⟨hlt0, cs0, ty0, fz0, hb0, by omega, fun i f hi hf => ?_⟩
    obtain rfl : f = 0 := by omega
    rw [Nat.mul_one, Nat.add_zero, hc0 i hi]
    exact congrArg (Value.int .u8) (tab0 ⟨i, hi⟩)
  | _ + 7, hgd => cases hgd

theorem BoardNobody_lifted (os : Os) (started : os.Started) (H : Type) (enc : TypeId × Value → H) :
    ReturnsInHanded {} Tryz.checked os n_law20_BoardNobody .any (fun w args => (Rows.boardNobodySpec.pre enc Tryz.prog Tryz.f5 [] false w args ∧ laidMetH Tryz.prog Rows.boardNobodyRow.laid w) ∧ sizedMet enc Tryz.prog Tryz.f5 (OpenSpec.ofChange Rows.boardNobodySpec) false w args)
      (Rows.boardNobodySpec.post enc Tryz.prog Tryz.f5 false true false false) := by
  refine law_lifted_laid (C := Tryz.checked) (L := [(true, [.int .i64, .int .i64, .int .i64, .int .i64, .slice [.int .i64], .int .i64, .int .i64])]) (tb := 4) own started (by kernel_rfl) Tryz.func5
    (ChangeSpec.witness_shaped (enc := enc) (C := Tryz.checked) (os := os) (X := fun w _ => laidMetH Tryz.prog Rows.boardNobodyRow.laid w) false (World.doorLaid Tryz.prog 400 os) #[.agg #[.int .i64 0, .int .i64 0, .int .i64 0, .int .i64 0, .slice Option.none 0 0, .int .i64 0, .int .i64 0]] 8 rfl (World.shaped_of_RefB (by kernel_rfl) (by kernel_rfl)) (by kernel_rfl) (by kernel_rfl) (by kernel_rfl) (door_met os _))
    rfl (fun ds hds => ?_) laidOut (by kernel_rfl) (by kernel_rfl) (by kernel_rfl) (by kernel_rfl) (fun W h => tabs_of h) ?_
  · exact BoardNobody_spec ds (Eq.trans hds f5_size)
  · intro gs hg
    obtain ⟨g, rfl, ⟨k, _, e0⟩, ⟨c, _, e1⟩, ⟨p, _, e2⟩, ⟨h, _, e3⟩, ⟨n, l, e4, _⟩, ⟨a, _, e5⟩, ⟨w, _, e6⟩, _⟩ := hasArgs_one hg
    have e1 : g 1 = _ := e1
    have e2 : g 2 = _ := e2
    have e3 : g 3 = _ := e3
    have e4 : g 4 = .seq n 1 l := e4
    have e5 : g 5 = _ := e5
    have e6 : g 6 = _ := e6
    show CallOK PR n_law20_BoardNobody [.agg [.dv (g 0), .dv (g 1), .dv (g 2), .dv (g 3), .dv (g 4), .dv (g 5), .dv (g 6)]] [] fun r _ => r = .dv (.bool true)
    rw [e0, e1, e2, e3, e4, e5, e6]
    exact ok_BoardNobody k c p h n l a w

theorem BoardNobody_row : Rows.BoardNobodySaid :=
  OpenClaim.holds_of_wide n_law20_BoardNobody Tryz.f5 rfl rfl rfl rfl rfl rfl rfl ⟨rfl, rfl, rfl, rfl, rfl⟩ rfl rfl rfl rfl rfl (by kernel_rfl) Tryz.func5 (by kernel_rfl)
    (of_decide_eq_true (by kernel_rfl)) (by unfold Func.isWrapper; first | (rw [if_pos (by decide +kernel)]; kernel_rfl) | (rw [if_neg (by decide +kernel)]; exact ⟨rfl, rfl⟩))
    (fun os started H enc _ => BoardNobody_lifted os started H enc)

theorem no_stand : Tryz.f5.params.toList.all (fun t => !Tryz.prog.wantsStandIn t) = true := by kernel_rfl

theorem BoardNobody_holds : Rows.BoardNobodyCardSaid :=
  Claim7.holds_tied_plain_at .later [] [.data, .data] true (true, "994576c0b3697ef012527f7e197f0604ceaa5e0d8679d9317afc58ab5222b5a7") true
    BoardNobody_row (fun _ h => by cases h) (by kernel_rfl) (fun _ h => by cases h) boardNobody_row_tie rfl ⟨rfl, rfl⟩ (by kernel_rfl) rfl
    (fun f fn hf hfn => by
      obtain rfl : n_law20_BoardNobody = f := Option.some.inj ((show Tryz.prog.funcNamed "switchyard/switchyardlaw20.BoardNobody" = some n_law20_BoardNobody by kernel_rfl).symm.trans hf)
      obtain rfl : Tryz.f5 = fn := Option.some.inj (Tryz.func5.symm.trans hfn)
      exact ⟨by kernel_rfl, fun j t ht => by
        have h1 := List.all_eq_true.1 no_stand t (List.mem_of_getElem? (by simpa using ht))
        exact (by simpa using h1 : Tryz.prog.wantsStandIn t = false)⟩)
    (by kernel_rfl)

#print axioms BoardNobody_holds
end Go.Proofs.YtibjefabebjfdaaGreatDoor
