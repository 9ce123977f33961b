/-
  Walks: the chapter's example.
-/
import Derived.Test.YtophlodlencgiaaOrdI
import Derived.Test.YtophlodlencgiaaVchD
namespace Go.Proofs.Ytophlodlencgiaa
open Go.V
set_option linter.unusedVariables false
set_option linter.unusedSimpArgs false
set_option maxRecDepth 100000
set_option maxHeartbeats 8000000

/-- One entry without words. -/
def eG (co pe kd be en er : Int) (ld : DV) : Nat → Nat → DV := fun _ f => match f with
  | 0 => .int .i64 co | 1 => .int .i64 pe | 2 => .int .i64 kd | 3 => .int .i64 be | 4 => .int .i64 en | 5 => .int .i64 er | 6 => ld | _ => .int .i64 0

def eS (co pe kd be en er : Int) : Ents 1 (eG co pe kd be en er (.seq 0 1 fun _ _ => .nilp)) where
  co _ := co
  pe _ := pe
  kd _ := kd
  be _ := be
  en _ := en
  er _ := er
  m _ := 0
  g _ := fun _ _ => .nilp
  x _ _ := 0
  ha _ := 0
  h0 _ _ := rfl
  h1 _ _ := rfl
  h2 _ _ := rfl
  h3 _ _ := rfl
  h4 _ _ := rfl
  h5 _ _ := rfl
  h6 _ _ := rfl
  h7 _ _ := rfl
  hx _ _ j hj := absurd hj (Nat.not_lt_zero j)

theorem eG_le (co pe kd be en er : Int) : DLe (.seq 1 8 (eG co pe kd be en er .nils)) (.seq 1 8 (eG co pe kd be en er (.seq 0 1 fun _ _ => .nilp))) := by
  refine .seq fun i f hi hf => ?_
  rcases (by omega : f = 0 ∨ f = 1 ∨ f = 2 ∨ f = 3 ∨ f = 4 ∨ f = 5 ∨ f = 6 ∨ f = 7) with rfl | rfl | rfl | rfl | rfl | rfl | rfl | rfl
  all_goals first | exact .nil 1 _ | exact .same _

theorem wit1 : witO (eS 0 1 1 1 5 0) (eS 1 0 2 2 3 6) 2 = some [1, 0] := by kernel_rfl
theorem wit2 : (witO (eS 0 1 1 1 5 0) (eS 1 0 2 6 7 6) 2).isSome = false := by kernel_rfl

theorem ok_alive : CallOK (O := Ob) PR n_law21_alive [] [] fun r m => r = .dv (.bool true) ∧ m = [] := by
  refine fn_walkv mixed fn_law21_alive (Ent.refl _ _) fun bin cmp un conv bnot beq band sel isel ofN toN inb nz nneg lt le room' slb add sub sbin scmp slen sget ssub addk pc pb pi pf ps mkok min_ ig aeq P hP hA hF Q hQ => ?_
  cbv
  refine call_frzs [(0, 1, 8, eG 0 1 1 1 5 0 .nils), (1, 1, 8, eG 1 0 2 2 3 6 .nils)] ⟨⟨rfl, rfl, ?_⟩, ⟨rfl, rfl, ?_⟩, trivial⟩ ?_
  · intro i f hi hf
    obtain rfl : i = 0 := by omega
    rcases (by omega : f = 0 ∨ f = 1 ∨ f = 2 ∨ f = 3 ∨ f = 4 ∨ f = 5 ∨ f = 6 ∨ f = 7) with rfl | rfl | rfl | rfl | rfl | rfl | rfl | rfl
    all_goals rfl
  · intro i f hi hf
    obtain rfl : i = 0 := by omega
    rcases (by omega : f = 0 ∨ f = 1 ∨ f = 2 ∨ f = 3 ∨ f = 4 ∨ f = 5 ∨ f = 6 ∨ f = 7) with rfl | rfl | rfl | rfl | rfl | rfl | rfl | rfl
    all_goals rfl
  refine call_weak [.dv (.seq 1 8 (eG 0 1 1 1 5 0 (.seq 0 1 fun _ _ => .nilp))), .dv (.seq 1 8 (eG 1 0 2 2 3 6 (.seq 0 1 fun _ _ => .nilp))), .dv (.int .i64 2)] (.cons (.dv (eG_le ..)) (.cons (.dv (eG_le ..)) (.cons (.same _) .nil))) ?_
  refine call_pure hP code_order_Witness (ok_Witness (eS 0 1 1 1 5 0) (eS 1 0 2 2 3 6) 2 (by omega)) ⟨rfl, rfl, rfl, trivial⟩ ?_
  rintro _ ⟨l, b, hl, rfl⟩
  rw [wit1] at hl
  obtain ⟨rfl, rfl⟩ : b = true ∧ l = [1, 0] := by
    rcases hl with ⟨h1, h2⟩ | ⟨_, h2, _⟩
    · exact ⟨h1, (Option.some.inj h2).symm⟩
    · cases h2
  have hsame : CallOK (O := Ob) PR n_ref03_Same [.dv (.seq 2 1 fun j _ => .int .i64 (([1, 0].getD j 0 : Nat) : Int)), .dv (.seq 2 1 fun j _ => .int .i64 (([1, 0].getD j 0 : Nat) : Int))] [] fun r m => r = .dv (.bool true) ∧ m = [] := by
    refine CallOK.ent (ok_Same 2 _ (fun j => (([1, 0].getD j 0 : Nat) : Int)) (fun _ _ => rfl) 2 _ (fun j => (([1, 0].getD j 0 : Nat) : Int)) (fun _ _ => rfl)) ?_
    rintro r m ⟨⟨v, hv, rfl⟩, hm⟩
    refine ⟨_, m, Ent.refl _ _, ?_, hm⟩
    rw [hv, sameW_iff.2 ⟨rfl, fun _ _ => rfl⟩]
  generalize hy : (fun (j _ : Nat) => DV.int .i64 (([1, 0].getD j 0 : Nat) : Int)) = y at hsame
  generalize hg1 : eG 0 1 1 1 5 0 .nils = g1
  cbv
  refine call_frzs [(2, 1, 8, eG 1 0 2 6 7 6 .nils), (3, 2, 1, fun j _ => .int .i64 (([1, 0].getD j 0 : Nat) : Int))] ⟨⟨rfl, rfl, ?_⟩, ⟨rfl, rfl, ?_⟩, trivial⟩ ?_
  · intro i f hi hf
    obtain rfl : i = 0 := by omega
    rcases (by omega : f = 0 ∨ f = 1 ∨ f = 2 ∨ f = 3 ∨ f = 4 ∨ f = 5 ∨ f = 6 ∨ f = 7) with rfl | rfl | rfl | rfl | rfl | rfl | rfl | rfl
    all_goals rfl
  · intro i f hi hf
    obtain rfl : f = 0 := by omega
    rcases (by omega : i = 0 ∨ i = 1) with rfl | rfl
    all_goals rfl
  rw [hy]
  refine call_pure hP code_ref03_Same hsame ⟨?_, rfl, trivial⟩ ?_
  · subst hy; rfl
  rintro _ rfl
  generalize hg2 : eG 1 0 2 6 7 6 .nils = g2
  cbv
  refine call_weak [.dv (.seq 1 8 (eG 0 1 1 1 5 0 (.seq 0 1 fun _ _ => .nilp))), .dv (.seq 1 8 (eG 1 0 2 6 7 6 (.seq 0 1 fun _ _ => .nilp))), .dv (.int .i64 2)] (.cons (.dv (hg1 ▸ eG_le ..)) (.cons (.dv (hg2 ▸ eG_le ..)) (.cons (.same _) .nil))) ?_
  refine call_pure hP code_order_Fits (ok_Fits (eS 0 1 1 1 5 0) (eS 1 0 2 6 7 6) 2 (by omega)) ⟨rfl, rfl, rfl, trivial⟩ ?_
  rintro _ ⟨v, hv, rfl⟩
  rw [wit2] at hv
  subst hv
  cbv
  subst hQ
  refine leaf_data rfl rfl ⟨?_, rfl⟩
  simp only [hF]
  rfl

end Go.Proofs.Ytophlodlencgiaa
