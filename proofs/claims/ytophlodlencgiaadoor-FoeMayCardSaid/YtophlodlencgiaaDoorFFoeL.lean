/-
  Which words are a foe's, which events it is allowed and which channels are honest is what the document says: FoeMay. It answers true at every input, and leaves its arguments as they were; the two tables are as the program's text lays them (the tie is given). No other condition.
-/
import Derived.Test.YtophlodlencgiaaDoorRows
import Derived.Test.YtophlodlencgiaaDoorCards
import Derived.Test.YtophlodlencgiaaDoorTie
import Derived.Test.YtophlodlencgiaaDoorFVcgW
import Derived.Test.YtophlodlencgiaaDoorFFoeK
import Derived.LaidMore
import Derived.LaidHandle
import Derived.SevenTiedAt
namespace Go.Proofs.YtophlodlencgiaaDoor
open Go.V

theorem own : ownKnob Tryd.prog.godebug = none := by kernel_rfl
theorem laidOut : laidOutB Tryd.prog = true := by kernel_rfl
theorem f4_size : Tryd.f4.params.size = 4 := by kernel_rfl
theorem gTz : Tryd.prog.globalNamed "math/bits.deBruijn64tab" = some 3 := by kernel_rfl
theorem tTz : (Tryd.prog.globals[3]?).map (·.type) = some 109 := by kernel_rfl
theorem gAhead : Tryd.prog.globalNamed "switchyard/plot.ahead" = some 1 := by kernel_rfl
theorem tAhead : (Tryd.prog.globals[1]?).map (·.type) = some 80 := by kernel_rfl

theorem FoeMay_spec {H : Type} (ds : List (DataW H)) (h : ds.length = 4) : Rows.foeMaySpec.fn H ds = { results := [.lit (.bool true)], args := ds } := by
  match ds, h with
  | [a, b, c, d], _ => rfl

theorem door_met (os : Os) (args : Array Value) : laidMetH Tryd.prog Rows.foeMayRow.laid ((World.doorLaid Tryd.prog 400 os).forCall (fun _ _ => 0) ⟨#[], args, []⟩).memory :=
  laidMetH_of_parts3 (fuel := 8) (laidMet_of_run' 8 (by kernel_rfl) (by kernel_rfl)) (by kernel_rfl) (by kernel_rfl)

theorem tz_tab : ∀ i : Fin 64, ([0, 1, 56, 2, 57, 49, 28, 3, 61, 58, 42, 50, 38, 29, 17, 4, 62, 47, 59, 36, 45, 43, 51, 22, 53, 39, 33, 30, 24, 18, 12, 5, 63, 55, 48, 27, 60, 41, 37, 16, 46, 35, 44, 21, 52, 32, 23, 11, 54, 26, 40, 15, 34, 20, 31, 10, 25, 14, 19, 9, 13, 8, 7, 6] : List Int).getD i.val 0 = tzT i.val := by decide +kernel
theorem ahead_tab : ∀ i : Fin 9, ([0, 0, 0, 0, 0, 0, 1, 2, 3] : List Int).getD i.val 0 = aheadT i.val := by decide +kernel

theorem tabs_of {W : World} (h : laidMetH Tryd.prog Rows.foeMayRow.laid W) : Tabs (Objs.gd Ob) (· < W.heap.size) W := by
  rw [MakeChecks.laidMetH_plain _ _ _ (by kernel_rfl)] at h
  obtain ⟨ps, ⟨g0, t0, cs0, f0, p0, q0, hg0, ht0, hv0, hd0, ⟨g1, t1, cs1, f1, p1, q1, hg1, ht1, hv1, hd1, _, _⟩, _⟩, _⟩ := h
  obtain rfl := Option.some.inj (gTz.symm.trans hg0)
  obtain rfl := Option.some.inj (tTz.symm.trans ht0)
  obtain rfl := Option.some.inj (gAhead.symm.trans hg1)
  obtain rfl := Option.some.inj (tAhead.symm.trans ht1)
  obtain ⟨hlt, ty, fz, hb, hsz, _, hc⟩ := laid_ints (k := .u8) (n := 64) (e := 5) (ns := [0, 1, 56, 2, 57, 49, 28, 3, 61, 58, 42, 50, 38, 29, 17, 4, 62, 47, 59, 36, 45, 43, 51, 22, 53, 39, 33, 30, 24, 18, 12, 5, 63, 55, 48, 27, 60, 41, 37, 16, 46, 35, 44, 21, 52, 32, 23, 11, 54, 26, 40, 15, 34, 20, 31, 10, 25, 14, 19, 9, 13, 8, 7, 6]) hg0 (by kernel_rfl) (by kernel_rfl) (by kernel_rfl) hv0 hd0
  obtain ⟨hlt1, ty1, fz1, hb1, hsz1, _, hc1⟩ := laid_ints (k := .i64) (n := 9) (e := 3) (ns := [0, 0, 0, 0, 0, 0, 1, 2, 3]) hg1 (by kernel_rfl) (by kernel_rfl) (by kernel_rfl) hv1 hd1
  intro g n sz at_ hgd
  match g, hgd with
  | 0, hgd => cases hgd
  | 1, hgd =>
    cases hgd
    refine ⟨hlt1, cs1, ty1, fz1, hb1, by omega, fun i f hi hf => ?_⟩
    obtain rfl : f = 0 := by omega
    rw [Nat.mul_one, Nat.add_zero, hc1 i hi]
    exact congrArg (Value.int .i64) (ahead_tab ⟨i, hi⟩)
  | 2, hgd => cases hgd
  | 3, hgd =>
    cases hgd
    refine ⟨hlt, cs0, ty, fz, hb, by omega, fun i f hi hf => ?_⟩
    obtain rfl : f = 0 := by omega
    rw [Nat.mul_one, Nat.add_zero, hc i hi]
    exact congrArg (Value.int .u8) (tz_tab ⟨i, hi⟩)
  | _ + 4, hgd => cases hgd

theorem FoeMay_lifted (os : Os) (started : os.Started) (H : Type) (enc : TypeId × Value → H) :
    ReturnsInHanded {} Tryd.checked os n_law23_FoeMay .any (fun w args => (Rows.foeMaySpec.pre enc Tryd.prog Tryd.f4 [] false w args ∧ laidMetH Tryd.prog Rows.foeMayRow.laid w) ∧ sizedMet enc Tryd.prog Tryd.f4 (OpenSpec.ofChange Rows.foeMaySpec) false w args)
      (Rows.foeMaySpec.post enc Tryd.prog Tryd.f4 false true false false) := by
  refine law_lifted_laid (C := Tryd.checked) (L := [(true, [.int .i64, .int .i64, .int .i64]), (false, [.int .i64]), (true, [.int .i64, .int .i64, .int .i64, .int .i64, .slice [.int .i64], .int .i64, .int .i64]), (true, [.int .i64, .int .i64])]) (tb := 4) own started (by kernel_rfl) Tryd.func4
    (ChangeSpec.witness_shaped (enc := enc) (C := Tryd.checked) (os := os) (X := fun w _ => laidMetH Tryd.prog Rows.foeMayRow.laid w) false (World.doorLaid Tryd.prog 400 os) #[.agg #[.int .i64 0, .int .i64 0, .int .i64 0], .int .i64 0, .agg #[.int .i64 0, .int .i64 0, .int .i64 0, .int .i64 0, .slice Option.none 0 0, .int .i64 0, .int .i64 0], .agg #[.int .i64 0, .int .i64 0]] 8 rfl (World.shaped_of_RefB (by kernel_rfl) (by kernel_rfl)) (by kernel_rfl) (by kernel_rfl) (by kernel_rfl) (door_met os _))
    rfl (fun ds hds => ?_) laidOut (by kernel_rfl) (by kernel_rfl) (by kernel_rfl) (by kernel_rfl) (fun W h => tabs_of h) ?_
  · exact FoeMay_spec ds (Eq.trans hds f4_size)
  · intro gs hg
    match gs, hg with
    | [], h => exact h.elim
    | [_], h => exact h.2.elim
    | [_, _], h => exact h.2.2.elim
    | [_, _, _], h => exact h.2.2.2.elim
    | [g0, g1, g2, g3], ⟨⟨⟨c, _, e0⟩, ⟨r, _, e1⟩, ⟨b, _, e2⟩, _⟩, ⟨⟨core, _, e3⟩, _⟩, ⟨⟨kd, _, e4⟩, ⟨co, _, e5⟩, ⟨pe, _, e6⟩, ⟨ha, _, e7⟩, ⟨n, g, e8, _⟩, ⟨at_, hat, e9⟩, ⟨wd, _, e10⟩, _⟩, ⟨⟨t0, _, e11⟩, ⟨t1, _, e12⟩, _⟩, _⟩ =>
      have e1 : g0 1 = _ := e1
      have e2 : g0 2 = _ := e2
      have e5 : g2 1 = _ := e5
      have e6 : g2 2 = _ := e6
      have e7 : g2 3 = _ := e7
      have e8 : g2 4 = .seq n 1 g := e8
      have e9 : g2 5 = _ := e9
      have e10 : g2 6 = _ := e10
      have e12 : g3 1 = _ := e12
      show CallOK PR n_law23_FoeMay [.agg [.dv (g0 0), .dv (g0 1), .dv (g0 2)], .dv (g1 0), .agg [.dv (g2 0), .dv (g2 1), .dv (g2 2), .dv (g2 3), .dv (g2 4), .dv (g2 5), .dv (g2 6)], .agg [.dv (g3 0), .dv (g3 1)]] [] fun r _ => r = .dv (.bool true)
      rw [e0, e1, e2, e3, e4, e5, e6, e7, e8, e9, e10, e11, e12]
      exact ok_FoeMay c r b core kd co pe ha at_ wd t0 t1 n g hat
    | _ :: _ :: _ :: _ :: _ :: _, h => exact h.2.2.2.2.elim

theorem FoeMay_row : Rows.FoeMaySaid :=
  OpenClaim.holds_of_wide n_law23_FoeMay Tryd.f4 rfl rfl rfl rfl rfl rfl rfl ⟨rfl, rfl, rfl, rfl, rfl⟩ rfl rfl rfl rfl rfl (by kernel_rfl) Tryd.func4 (by kernel_rfl)
    (of_decide_eq_true (by kernel_rfl)) (by unfold Func.isWrapper; first | (rw [if_pos (by decide +kernel)]; kernel_rfl) | (rw [if_neg (by decide +kernel)]; exact ⟨rfl, rfl⟩))
    (fun os started H enc _ => FoeMay_lifted os started H enc)

theorem no_stand : Tryd.f4.params.toList.all (fun t => !Tryd.prog.wantsStandIn t) = true := by kernel_rfl

theorem FoeMay_holds : Rows.FoeMayCardSaid :=
  Claim7.holds_tied_plain_at .later [] [.data, .data] true (true, "1396f876c009423221fff0bc45e46b9f95c05c901f580631b865e387b2e805bf") false
    FoeMay_row (fun _ h => by cases h) (by kernel_rfl) (fun _ h => by cases h) foeMay_row_tie rfl ⟨rfl, rfl⟩ (by kernel_rfl) rfl
    (fun f fn hf hfn => by
      obtain rfl : n_law23_FoeMay = f := Option.some.inj ((show Tryd.prog.funcNamed "switchyard/switchyardlaw23.FoeMay" = some n_law23_FoeMay by kernel_rfl).symm.trans hf)
      obtain rfl : Tryd.f4 = fn := Option.some.inj (Tryd.func4.symm.trans hfn)
      exact ⟨by kernel_rfl, fun j t ht => by
        have h1 := List.all_eq_true.1 no_stand t (List.mem_of_getElem? (by simpa using ht))
        exact (by simpa using h1 : Tryd.prog.wantsStandIn t = false)⟩)
    (by kernel_rfl)

#print axioms FoeMay_holds
end Go.Proofs.YtophlodlencgiaaDoor
