/-
  Whether any diary is right, and which entries any channel has, is what the document says: DiaryRight. It answers true at every input, and leaves its arguments as they were; the listed tables are as the program's text lays them (the tie is given). No other condition.
-/
import Derived.Test.YtophlodlencgiabDoorRows
import Derived.Test.YtophlodlencgiabDoorCards
import Derived.Test.YtophlodlencgiabDoorTie
import Derived.Test.YtophlodlencgiabDoorVcgW
import Derived.Test.YtophlodlencgiabDoorDiaH
import Derived.LaidMore
import Derived.LaidHandle
import Derived.SevenTiedAt
namespace Go.Proofs.YtophlodlencgiabDoor
open Go.V

theorem own : ownKnob Tryd.prog.godebug = none := by kernel_rfl
theorem laidOut : laidOutB Tryd.prog = true := by kernel_rfl
theorem f3_size : Tryd.f3.params.size = 3 := by kernel_rfl

theorem DiaryRight_spec {H : Type} (ds : List (DataW H)) (h : ds.length = 3) : Rows.diaryRightSpec.fn H ds = { results := [.lit (.bool true)], args := ds } := by
  match ds, h with
  | [a, b, c], _ => rfl


theorem door_met (os : Os) (args : Array Value) : laidMetH Tryd.prog Rows.diaryRightRow.laid ((World.doorLaid Tryd.prog 400 os).forCall (fun _ _ => 0) ⟨#[], args, []⟩).memory :=
  laidMetH_of_parts3 (fuel := 8) (laidMet_of_run' 8 (by kernel_rfl) (by kernel_rfl)) (by kernel_rfl) (by kernel_rfl)

theorem tabs_of {W : World} (_h : laidMetH Tryd.prog Rows.diaryRightRow.laid W) : Tabs (Objs.gd Ob) (· < W.heap.size) W := by
  intro g n sz at_ h; cases h

theorem DiaryRight_lifted (os : Os) (started : os.Started) (H : Type) (enc : TypeId × Value → H) :
    ReturnsInHanded {} Tryd.checked os n_law19_DiaryRight .any (fun w args => (Rows.diaryRightSpec.pre enc Tryd.prog Tryd.f3 [] false w args ∧ laidMetH Tryd.prog Rows.diaryRightRow.laid w) ∧ sizedMet enc Tryd.prog Tryd.f3 (OpenSpec.ofChange Rows.diaryRightSpec) false w args)
      (Rows.diaryRightSpec.post enc Tryd.prog Tryd.f3 false true false false) := by
  refine law_lifted_laid (C := Tryd.checked) (L := [(false, [.slice [.int .i64, .int .i64, .int .i64, .int .i64, .int .i64, .int .i64, .slice [.int .i64], .int .i64]]), (false, [.int .i64]), (false, [.int .i64])]) (tb := 4) own started (by kernel_rfl) Tryd.func3
    (ChangeSpec.witness_shaped (enc := enc) (C := Tryd.checked) (os := os) (X := fun w _ => laidMetH Tryd.prog Rows.diaryRightRow.laid w) false (World.doorLaid Tryd.prog 400 os) #[.slice none 0 0, .int .i64 0, .int .i64 0] 8 rfl (World.shaped_of_RefB (by kernel_rfl) (by kernel_rfl)) (by kernel_rfl) (by kernel_rfl) (by kernel_rfl) (door_met os _))
    rfl (fun ds hds => ?_) laidOut (by kernel_rfl) (by kernel_rfl) (by kernel_rfl) (by kernel_rfl) (fun W h => tabs_of h) ?_
  · exact DiaryRight_spec ds (Eq.trans hds f3_size)
  · intro gs hg
    obtain ⟨g, h, k, rfl, ⟨⟨n, G, e0, _, hG⟩, _⟩, ⟨⟨a, _, e1⟩, _⟩, ⟨⟨b, _, e2⟩, _⟩⟩ := hasArgs_three hg
    obtain ⟨S⟩ := ents_of hG
    have e0 : g 0 = .seq n 8 G := e0
    show CallOK PR n_law19_DiaryRight [.dv (g 0), .dv (h 0), .dv (k 0)] [] fun r _ => r = .dv (.bool true)
    rw [e0, e1, e2]
    exact (ok_DiaryRight S a b).ent fun r m h => ⟨r, m, Ent.refl _ _, h.1⟩

theorem DiaryRight_row : Rows.DiaryRightSaid :=
  OpenClaim.holds_of_wide n_law19_DiaryRight Tryd.f3 rfl rfl rfl rfl rfl rfl rfl ⟨rfl, rfl, rfl, rfl, rfl⟩ rfl rfl rfl rfl rfl (by kernel_rfl) Tryd.func3 (by kernel_rfl)
    (of_decide_eq_true (by kernel_rfl)) (by unfold Func.isWrapper; first | (rw [if_pos (by decide +kernel)]; kernel_rfl) | (rw [if_neg (by decide +kernel)]; exact ⟨rfl, rfl⟩))
    (fun os started H enc _ => DiaryRight_lifted os started H enc)

theorem no_stand : Tryd.f3.params.toList.all (fun t => !Tryd.prog.wantsStandIn t) = true := by kernel_rfl

theorem DiaryRight_holds : Rows.DiaryRightCardSaid :=
  Claim7.holds_tied_plain_at .later [] [.data, .data, .data] true (true, "1bf836e96f1c09c9b6946335fe3623fd6b8d0f68e6b1375720ae206091c47e46") false
    DiaryRight_row (fun _ h => by cases h) (by kernel_rfl) (fun _ h => by cases h) diaryRight_row_tie rfl ⟨rfl, rfl⟩ (by kernel_rfl) rfl
    (fun f fn hf hfn => by
      obtain rfl : n_law19_DiaryRight = f := Option.some.inj ((show Tryd.prog.funcNamed "switchyard/switchyardlaw19.DiaryRight" = some n_law19_DiaryRight by kernel_rfl).symm.trans hf)
      obtain rfl : Tryd.f3 = fn := Option.some.inj (Tryd.func3.symm.trans hfn)
      exact ⟨by kernel_rfl, fun j t ht => by
        have h1 := List.all_eq_true.1 no_stand t (List.mem_of_getElem? (by simpa using ht))
        exact (by simpa using h1 : Tryd.prog.wantsStandIn t = false)⟩)
    (by kernel_rfl)

#print axioms DiaryRight_holds
end Go.Proofs.YtophlodlencgiabDoor
