/-
  Each entry of a right diary stands in one of the channels, once: DiaryParts. It answers true at every input, and leaves its argument as it was; the listed tables are as the program's text lays them (the tie is given). No other condition.
-/
import Derived.Test.YtophlodlencgiabDoorRows
import Derived.Test.YtophlodlencgiabDoorCards
import Derived.Test.YtophlodlencgiabDoorTie
import Derived.Test.YtophlodlencgiabDoorVcgW
import Derived.Test.YtophlodlencgiabDoorDiaH
import Derived.LaidMore
import Derived.LaidHandle
import Derived.SevenTiedAt
namespace Go.Proofs.YtophlodlencgiabDoor
open Go.V

theorem own : ownKnob Tryd.prog.godebug = none := by kernel_rfl
theorem laidOut : laidOutB Tryd.prog = true := by kernel_rfl
theorem f4_size : Tryd.f4.params.size = 1 := by kernel_rfl

theorem DiaryParts_spec {H : Type} (ds : List (DataW H)) (h : ds.length = 1) : Rows.diaryPartsSpec.fn H ds = { results := [.lit (.bool true)], args := ds } := by
  match ds, h with
  | [a], _ => rfl


theorem door_met (os : Os) (args : Array Value) : laidMetH Tryd.prog Rows.diaryPartsRow.laid ((World.doorLaid Tryd.prog 400 os).forCall (fun _ _ => 0) ⟨#[], args, []⟩).memory :=
  laidMetH_of_parts3 (fuel := 8) (laidMet_of_run' 8 (by kernel_rfl) (by kernel_rfl)) (by kernel_rfl) (by kernel_rfl)

theorem tabs_of {W : World} (_h : laidMetH Tryd.prog Rows.diaryPartsRow.laid W) : Tabs (Objs.gd Ob) (· < W.heap.size) W := by
  intro g n sz at_ h; cases h

theorem DiaryParts_lifted (os : Os) (started : os.Started) (H : Type) (enc : TypeId × Value → H) :
    ReturnsInHanded {} Tryd.checked os n_law19_DiaryParts .any (fun w args => (Rows.diaryPartsSpec.pre enc Tryd.prog Tryd.f4 [] false w args ∧ laidMetH Tryd.prog Rows.diaryPartsRow.laid w) ∧ sizedMet enc Tryd.prog Tryd.f4 (OpenSpec.ofChange Rows.diaryPartsSpec) false w args)
      (Rows.diaryPartsSpec.post enc Tryd.prog Tryd.f4 false true false false) := by
  refine law_lifted_laid (C := Tryd.checked) (L := [(false, [.slice [.int .i64, .int .i64, .int .i64, .int .i64, .int .i64, .int .i64, .slice [.int .i64], .int .i64]])]) (tb := 4) own started (by kernel_rfl) Tryd.func4
    (ChangeSpec.witness_shaped (enc := enc) (C := Tryd.checked) (os := os) (X := fun w _ => laidMetH Tryd.prog Rows.diaryPartsRow.laid w) false (World.doorLaid Tryd.prog 400 os) #[.slice none 0 0] 8 rfl (World.shaped_of_RefB (by kernel_rfl) (by kernel_rfl)) (by kernel_rfl) (by kernel_rfl) (by kernel_rfl) (door_met os _))
    rfl (fun ds hds => ?_) laidOut (by kernel_rfl) (by kernel_rfl) (by kernel_rfl) (by kernel_rfl) (fun W h => tabs_of h) ?_
  · exact DiaryParts_spec ds (Eq.trans hds f4_size)
  · intro gs hg
    obtain ⟨g, rfl, ⟨n, G, e0, _, hG⟩, _⟩ := hasArgs_one hg
    obtain ⟨S⟩ := ents_of hG
    have e0 : g 0 = .seq n 8 G := e0
    show CallOK PR n_law19_DiaryParts [.dv (g 0)] [] fun r _ => r = .dv (.bool true)
    rw [e0]
    exact (ok_DiaryParts S).ent fun r m h => ⟨r, m, Ent.refl _ _, h.1⟩

theorem DiaryParts_row : Rows.DiaryPartsSaid :=
  OpenClaim.holds_of_wide n_law19_DiaryParts Tryd.f4 rfl rfl rfl rfl rfl rfl rfl ⟨rfl, rfl, rfl, rfl, rfl⟩ rfl rfl rfl rfl rfl (by kernel_rfl) Tryd.func4 (by kernel_rfl)
    (of_decide_eq_true (by kernel_rfl)) (by unfold Func.isWrapper; first | (rw [if_pos (by decide +kernel)]; kernel_rfl) | (rw [if_neg (by decide +kernel)]; exact ⟨rfl, rfl⟩))
    (fun os started H enc _ => DiaryParts_lifted os started H enc)

theorem no_stand : Tryd.f4.params.toList.all (fun t => !Tryd.prog.wantsStandIn t) = true := by kernel_rfl

theorem DiaryParts_holds : Rows.DiaryPartsCardSaid :=
  Claim7.holds_tied_plain_at .later [] [.data, .data, .data] true (true, "1bf836e96f1c09c9b6946335fe3623fd6b8d0f68e6b1375720ae206091c47e46") false
    DiaryParts_row (fun _ h => by cases h) (by kernel_rfl) (fun _ h => by cases h) diaryParts_row_tie rfl ⟨rfl, rfl⟩ (by kernel_rfl) rfl
    (fun f fn hf hfn => by
      obtain rfl : n_law19_DiaryParts = f := Option.some.inj ((show Tryd.prog.funcNamed "switchyard/switchyardlaw19.DiaryParts" = some n_law19_DiaryParts by kernel_rfl).symm.trans hf)
      obtain rfl : Tryd.f4 = fn := Option.some.inj (Tryd.func4.symm.trans hfn)
      exact ⟨by kernel_rfl, fun j t ht => by
        have h1 := List.all_eq_true.1 no_stand t (List.mem_of_getElem? (by simpa using ht))
        exact (by simpa using h1 : Tryd.prog.wantsStandIn t = false)⟩)
    (by kernel_rfl)

#print axioms DiaryParts_holds
end Go.Proofs.YtophlodlencgiabDoor
