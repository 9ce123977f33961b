/-
  Whether any two diaries are the same, the text of each entry, and how many have any answer, is what the document says: DiaryTells. It answers true at every input, and leaves its arguments as they were; the listed tables are as the program's text lays them (the tie is given). No other condition.
-/
import Derived.Test.YtophlodlencgiaaDoorRows
import Derived.Test.YtophlodlencgiaaDoorCards
import Derived.Test.YtophlodlencgiaaDoorTie
import Derived.Test.YtophlodlencgiaaDoorVcgW
import Derived.Test.YtophlodlencgiaaDoorDiaS
import Derived.LaidMore
import Derived.LaidHandle
import Derived.SevenTiedAt
namespace Go.Proofs.YtophlodlencgiaaDoor
open Go.V

theorem own : ownKnob Tryd.prog.godebug = none := by kernel_rfl
theorem laidOut : laidOutB Tryd.prog = true := by kernel_rfl
theorem f6_size : Tryd.f6.params.size = 4 := by kernel_rfl

theorem DiaryTells_spec {H : Type} (ds : List (DataW H)) (h : ds.length = 4) : Rows.diaryTellsSpec.fn H ds = { results := [.lit (.bool true)], args := ds } := by
  match ds, h with
  | [a, b, c, d], _ => rfl

theorem gT0 : Tryd.prog.globalNamed "math/bits.deBruijn32tab" = some 4 := by kernel_rfl
theorem tT0 : (Tryd.prog.globals[4]?).map (·.type) = some 111 := by kernel_rfl
theorem gT1 : Tryd.prog.globalNamed "math/bits.deBruijn64tab" = some 3 := by kernel_rfl
theorem tT1 : (Tryd.prog.globals[3]?).map (·.type) = some 109 := by kernel_rfl
theorem gT2 : Tryd.prog.globalNamed "internal/strconv.uint64pow10" = some 2 := by kernel_rfl
theorem tT2 : (Tryd.prog.globals[2]?).map (·.type) = some 104 := by kernel_rfl
theorem tab2 : ∀ i : Fin 20, (([1, 10, 100, 1000, 10000, 100000, 1000000, 10000000, 100000000, 1000000000, 10000000000, 100000000000, 1000000000000, 10000000000000, 100000000000000, 1000000000000000, 10000000000000000, 100000000000000000, 1000000000000000000, 10000000000000000000] : List Int).getD i.val 0) = (fun i => ((10 ^ i : Nat) : Int)) i.val := by decide +kernel

theorem door_met (os : Os) (args : Array Value) : laidMetH Tryd.prog Rows.diaryTellsRow.laid ((World.doorLaid Tryd.prog 400 os).forCall (fun _ _ => 0) ⟨#[], args, []⟩).memory :=
  laidMetH_of_parts3 (fuel := 8) (laidMet_of_run' 8 (by kernel_rfl) (by kernel_rfl)) (by kernel_rfl) (by kernel_rfl)

theorem tabs_of {W : World} (h : laidMetH Tryd.prog Rows.diaryTellsRow.laid W) : Tabs (Objs.gd Ob) (· < W.heap.size) W := by
  rw [MakeChecks.laidMetH_plain _ _ _ (by kernel_rfl)] at h
  obtain ⟨ps, ⟨g0, t0, cs0, f0, p0, q0, hg0, ht0, hv0, hd0, ⟨g1, t1, cs1, f1, p1, q1, hg1, ht1, hv1, hd1, ⟨g2, t2, cs2, f2, p2, q2, hg2, ht2, hv2, hd2, _, _⟩, _⟩, _⟩, _⟩ := h
  obtain rfl := Option.some.inj (gT0.symm.trans hg0)
  obtain rfl := Option.some.inj (tT0.symm.trans ht0)
  obtain rfl := Option.some.inj (gT1.symm.trans hg1)
  obtain rfl := Option.some.inj (tT1.symm.trans ht1)
  obtain rfl := Option.some.inj (gT2.symm.trans hg2)
  obtain rfl := Option.some.inj (tT2.symm.trans ht2)
  obtain ⟨hlt2, ty2, fz2, hb2, hsz2, _, hc2⟩ := laid_ints (k := .u64) (n := 20) (e := 95) (ns := [1, 10, 100, 1000, 10000, 100000, 1000000, 10000000, 100000000, 1000000000, 10000000000, 100000000000, 1000000000000, 10000000000000, 100000000000000, 1000000000000000, 10000000000000000, 100000000000000000, 1000000000000000000, 10000000000000000000]) hg2 (by kernel_rfl) (by kernel_rfl) (by kernel_rfl) (by kernel_rfl) hv2 hd2
  intro g n sz at_ hgd
  match g, hgd with
  | 0, hgd => cases hgd
  | 1, hgd => cases hgd
  | 2, hgd =>
      cases hgd
      refine ⟨hlt2, cs2, ty2, fz2, hb2, by omega, fun i f hi hf => ?_⟩
      obtain rfl : f = 0 := by omega
      rw [Nat.mul_one, Nat.add_zero, hc2 i hi]
      exact congrArg (Value.int .u64) (tab2 ⟨i, hi⟩)
  | _ + 3, hgd => cases hgd

theorem DiaryTells_lifted (os : Os) (started : os.Started) (H : Type) (enc : TypeId × Value → H) :
    ReturnsInHanded {} Tryd.checked os n_law19_DiaryTells .any (fun w args => (Rows.diaryTellsSpec.pre enc Tryd.prog Tryd.f6 [] false w args ∧ laidMetH Tryd.prog Rows.diaryTellsRow.laid w) ∧ sizedMet enc Tryd.prog Tryd.f6 (OpenSpec.ofChange Rows.diaryTellsSpec) false w args)
      (Rows.diaryTellsSpec.post enc Tryd.prog Tryd.f6 false true false false) := by
  refine law_lifted_laid (C := Tryd.checked) (L := [(false, [.slice [.int .i64, .int .i64, .int .i64, .int .i64, .int .i64, .int .i64, .slice [.int .i64], .int .i64]]), (false, [.slice [.int .i64, .int .i64, .int .i64, .int .i64, .int .i64, .int .i64, .slice [.int .i64], .int .i64]]), (false, [.int .i64]), (false, [.int .i64])]) (tb := 4) own started (by kernel_rfl) Tryd.func6
    (ChangeSpec.witness_shaped (enc := enc) (C := Tryd.checked) (os := os) (X := fun w _ => laidMetH Tryd.prog Rows.diaryTellsRow.laid w) false (World.doorLaid Tryd.prog 400 os) #[.slice none 0 0, .slice none 0 0, .int .i64 0, .int .i64 0] 8 rfl (World.shaped_of_RefB (by kernel_rfl) (by kernel_rfl)) (by kernel_rfl) (by kernel_rfl) (by kernel_rfl) (door_met os _))
    rfl (fun ds hds => ?_) laidOut (by kernel_rfl) (by kernel_rfl) (by kernel_rfl) (by kernel_rfl) (fun W h => tabs_of h) ?_
  · exact DiaryTells_spec ds (Eq.trans hds f6_size)
  · intro gs hg
    obtain ⟨g, h, k, l, rfl, ⟨⟨n, G, e0, _, hG⟩, _⟩, ⟨⟨m, H, e1, _, hH⟩, _⟩, ⟨⟨a, _, e2⟩, _⟩, ⟨⟨b, _, e3⟩, _⟩⟩ := hasArgs_four hg
    obtain ⟨S, hS⟩ := ents_rng hG
    obtain ⟨T, _⟩ := ents_rng hH
    have e0 : g 0 = .seq n 8 G := e0
    have e1 : h 0 = .seq m 8 H := e1
    show CallOK PR n_law19_DiaryTells [.dv (g 0), .dv (h 0), .dv (k 0), .dv (l 0)] [] fun r _ => r = .dv (.bool true)
    rw [e0, e1, e2, e3]
    exact (ok_DiaryTells S hS T a b).ent fun r m h => ⟨r, m, Ent.refl _ _, h.1⟩

theorem DiaryTells_row : Rows.DiaryTellsSaid :=
  OpenClaim.holds_of_wide n_law19_DiaryTells Tryd.f6 rfl rfl rfl rfl rfl rfl rfl ⟨rfl, rfl, rfl, rfl, rfl⟩ rfl rfl rfl rfl rfl (by kernel_rfl) Tryd.func6 (by kernel_rfl)
    (of_decide_eq_true (by kernel_rfl)) (by unfold Func.isWrapper; first | (rw [if_pos (by decide +kernel)]; kernel_rfl) | (rw [if_neg (by decide +kernel)]; exact ⟨rfl, rfl⟩))
    (fun os started H enc _ => DiaryTells_lifted os started H enc)

theorem no_stand : Tryd.f6.params.toList.all (fun t => !Tryd.prog.wantsStandIn t) = true := by kernel_rfl

theorem DiaryTells_holds : Rows.DiaryTellsCardSaid :=
  Claim7.holds_tied_plain_at .later [] [.data, .data, .data] true (true, "1396f876c009423221fff0bc45e46b9f95c05c901f580631b865e387b2e805bf") false
    DiaryTells_row (fun _ h => by cases h) (by kernel_rfl) (fun _ h => by cases h) diaryTells_row_tie rfl ⟨rfl, rfl⟩ (by kernel_rfl) rfl
    (fun f fn hf hfn => by
      obtain rfl : n_law19_DiaryTells = f := Option.some.inj ((show Tryd.prog.funcNamed "switchyard/switchyardlaw19.DiaryTells" = some n_law19_DiaryTells by kernel_rfl).symm.trans hf)
      obtain rfl : Tryd.f6 = fn := Option.some.inj (Tryd.func6.symm.trans hfn)
      exact ⟨by kernel_rfl, fun j t ht => by
        have h1 := List.all_eq_true.1 no_stand t (List.mem_of_getElem? (by simpa using ht))
        exact (by simpa using h1 : Tryd.prog.wantsStandIn t = false)⟩)
    (by kernel_rfl)

#print axioms DiaryTells_holds
end Go.Proofs.YtophlodlencgiaaDoor
