/-
  How often any call may touch is what the document says: BoundMost. It answers true at every input, and leaves its arguments as they were; the table of touches is as the program's text lays it (the tie is given). No other condition.
-/
import Derived.Test.YtophlodlencgiaaDoorRows
import Derived.Test.YtophlodlencgiaaDoorCards
import Derived.Test.YtophlodlencgiaaDoorTie
import Derived.Test.YtophlodlencgiaaDoorVcgW
import Derived.Test.YtophlodlencgiaaDoorBndB
import Derived.LaidMore
import Derived.LaidHandle
import Derived.SevenTiedAt
namespace Go.Proofs.YtophlodlencgiaaDoor
open Go.V

theorem own : ownKnob Tryd.prog.godebug = none := by kernel_rfl
theorem laidOut : laidOutB Tryd.prog = true := by kernel_rfl
theorem f3_size : Tryd.f3.params.size = 4 := by kernel_rfl
theorem gTouches : Tryd.prog.globalNamed "switchyard/bound.touches" = some 0 := by kernel_rfl
theorem tTouches : (Tryd.prog.globals[0]?).map (·.type) = some 58 := by kernel_rfl

theorem BoundMost_spec {H : Type} (ds : List (DataW H)) (h : ds.length = 4) : Rows.boundMostSpec.fn H ds = { results := [.lit (.bool true)], args := ds } := by
  match ds, h with
  | [a, b, c, d], _ => rfl

theorem door_met (os : Os) (args : Array Value) : laidMetH Tryd.prog Rows.boundMostRow.laid ((World.doorLaid Tryd.prog 400 os).forCall (fun _ _ => 0) ⟨#[], args, []⟩).memory :=
  laidMetH_of_parts3 (fuel := 8) (laidMet_of_run' 8 (by kernel_rfl) (by kernel_rfl)) (by kernel_rfl) (by kernel_rfl)

theorem tabs_of {W : World} (h : laidMetH Tryd.prog Rows.boundMostRow.laid W) : Tabs (Objs.gd Ob) (· < W.heap.size) W := by
  rw [MakeChecks.laidMetH_plain _ _ _ (by kernel_rfl)] at h
  obtain ⟨ps, ⟨g0, t0, cs0, f0, p0, q0, hg0, ht0, hv0, hd0, _, _⟩, _⟩ := h
  obtain rfl := Option.some.inj (gTouches.symm.trans hg0)
  obtain rfl := Option.some.inj (tTouches.symm.trans ht0)
  obtain ⟨hlt, ty, fz, hb, hsz, _, hc⟩ := laid_ints (k := .i64) (n := 4) (e := 3) (ns := [0, 10, 6, 6]) hg0 (by kernel_rfl) (by kernel_rfl) (by kernel_rfl) hv0 hd0
  intro g n sz at_ hgd
  match g, hgd with
  | 0, hgd =>
    cases hgd
    refine ⟨hlt, cs0, ty, fz, hb, by omega, fun i f hi hf => ?_⟩
    obtain rfl : f = 0 := by omega
    rw [Nat.mul_one, Nat.add_zero, hc i hi]
    rcases (by omega : i = 0 ∨ i = 1 ∨ i = 2 ∨ i = 3) with rfl | rfl | rfl | rfl <;> rfl
  | _ + 1, hgd => cases hgd

theorem BoundMost_lifted (os : Os) (started : os.Started) (H : Type) (enc : TypeId × Value → H) :
    ReturnsInHanded {} Tryd.checked os n_law24_BoundMost .any (fun w args => (Rows.boundMostSpec.pre enc Tryd.prog Tryd.f3 [] false w args ∧ laidMetH Tryd.prog Rows.boundMostRow.laid w) ∧ sizedMet enc Tryd.prog Tryd.f3 (OpenSpec.ofChange Rows.boundMostSpec) false w args)
      (Rows.boundMostSpec.post enc Tryd.prog Tryd.f3 false true false false) := by
  refine law_lifted_laid (C := Tryd.checked) (L := [(false, [.int .i64]), (false, [.int .i64]), (false, [.int .i64]), (true, [.int .i64, .int .i64, .int .i64])]) (tb := 4) own started (by kernel_rfl) Tryd.func3
    (ChangeSpec.witness_shaped (enc := enc) (C := Tryd.checked) (os := os) (X := fun w _ => laidMetH Tryd.prog Rows.boundMostRow.laid w) false (World.doorLaid Tryd.prog 400 os) #[.int .i64 0, .int .i64 0, .int .i64 0, .agg #[.int .i64 0, .int .i64 0, .int .i64 0]] 8 rfl (World.shaped_of_RefB (by kernel_rfl) (by kernel_rfl)) (by kernel_rfl) (by kernel_rfl) (by kernel_rfl) (door_met os _))
    rfl (fun ds hds => ?_) laidOut (by kernel_rfl) (by kernel_rfl) (by kernel_rfl) (by kernel_rfl) (fun W h => tabs_of h) ?_
  · exact BoundMost_spec ds (Eq.trans hds f3_size)
  · intro gs hg
    match gs, hg with
    | [], h => exact h.elim
    | [_], h => exact h.2.elim
    | [_, _], h => exact h.2.2.elim
    | [_, _, _], h => exact h.2.2.2.elim
    | [g0, g1, g2, g3], ⟨⟨⟨kind, _, e0⟩, _⟩, ⟨⟨ring, _, e1⟩, _⟩, ⟨⟨words, _, e2⟩, _⟩, ⟨⟨c, _, e3⟩, ⟨r, _, e4⟩, ⟨b, _, e5⟩, _⟩, _⟩ =>
      have e4 : g3 1 = _ := e4
      have e5 : g3 2 = _ := e5
      show CallOK PR n_law24_BoundMost [.dv (g0 0), .dv (g1 0), .dv (g2 0), .agg [.dv (g3 0), .dv (g3 1), .dv (g3 2)]] [] fun r _ => r = .dv (.bool true)
      rw [e0, e1, e2, e3, e4, e5]
      exact ok_BoundMost kind ring words c r b
    | _ :: _ :: _ :: _ :: _ :: _, h => exact h.2.2.2.2.elim

theorem BoundMost_row : Rows.BoundMostSaid :=
  OpenClaim.holds_of_wide n_law24_BoundMost Tryd.f3 rfl rfl rfl rfl rfl rfl rfl ⟨rfl, rfl, rfl, rfl, rfl⟩ rfl rfl rfl rfl rfl (by kernel_rfl) Tryd.func3 (by kernel_rfl)
    (of_decide_eq_true (by kernel_rfl)) (by unfold Func.isWrapper; first | (rw [if_pos (by decide +kernel)]; kernel_rfl) | (rw [if_neg (by decide +kernel)]; exact ⟨rfl, rfl⟩))
    (fun os started H enc _ => BoundMost_lifted os started H enc)

theorem no_stand : Tryd.f3.params.toList.all (fun t => !Tryd.prog.wantsStandIn t) = true := by kernel_rfl

theorem BoundMost_holds : Rows.BoundMostCardSaid :=
  Claim7.holds_tied_plain_at .later [] [.data] true (true, "1396f876c009423221fff0bc45e46b9f95c05c901f580631b865e387b2e805bf") false
    BoundMost_row (fun _ h => by cases h) (by kernel_rfl) (fun _ h => by cases h) boundMost_row_tie rfl ⟨rfl, rfl⟩ (by kernel_rfl) rfl
    (fun f fn hf hfn => by
      obtain rfl : n_law24_BoundMost = f := Option.some.inj ((show Tryd.prog.funcNamed "switchyard/switchyardlaw24.BoundMost" = some n_law24_BoundMost by kernel_rfl).symm.trans hf)
      obtain rfl : Tryd.f3 = fn := Option.some.inj (Tryd.func3.symm.trans hfn)
      exact ⟨by kernel_rfl, fun j t ht => by
        have h1 := List.all_eq_true.1 no_stand t (List.mem_of_getElem? (by simpa using ht))
        exact (by simpa using h1 : Tryd.prog.wantsStandIn t = false)⟩)
    (by kernel_rfl)

#print axioms BoundMost_holds
end Go.Proofs.YtophlodlencgiaaDoor
