/-
  The library's walk over a slice from its end: what it hands to a loop's body; a cell's parts, for such a body.
-/
import Derived.Test.YtiaceoomiflgcaaFndA
import Derived.Test.YtiaceoomiflgcaaVcgW
import Derived.RangeFuncCalls
import Derived.RangeFuncBox
import Derived.RangeFuncLeaves
import Derived.Shelf.Abstract
import Derived.WalkKit
import Derived.OwnWalkIn
import Derived.TacticsInMore
import Derived.LoopNIn
import Derived.LoopIn
namespace Go.Proofs.Ytiaceoomiflgcaa
open Go.V Go.RowKit Go.Shelf
attribute [local go_sem] Oper.semAt_some

def partsV : Option (Int × Int) → Value
  | some (a, w) => .tuple #[.int .i64 a, .int .i64 w, .bool true]
  | none => .tuple #[.int .i64 0, .int .i64 0, .bool false]

theorem Parts_calls {I : Nat → Prop} {w0 W : World} (hT : Tabs (Objs.gd Ob) I w0) (hI : ∀ b, I b → b < w0.heap.size) (hB : Below w0.heap.size w0 W) (c : Nat × Nat) (p : Option (Int × Int)) (h : partsO c = some p) (n : Nat) :
    CallsIn Fence.wide n PR n_cell_Parts #[.complex .f64 c.1 c.2] W fun e W' => e = .returned (partsV p) ∧ Below W.heap.size W W' := by
  refine callsIn_wide.2 ?_
  have hsz := hB.size
  have hM : MSat (O := Ob) (fun _ => ⟨0, 0, 0, 0, false, none⟩) I W (fun _ _ => False) [] :=
    ⟨fun h c e => by simp at e, fun _ _ _ h => h.elim, fun _ _ _ h => h, fun _ _ h => h.elim, fun b hb => Nat.lt_of_lt_of_le (hI b hb) hsz, hT.mono (fun _ h => h) fun k hk => hB.block k (hI k hk)⟩
  have hr : RelL (fun _ => ⟨0, 0, 0, 0, false, none⟩) 0 I W [.dv (.cpx .f64 c.1 c.2)] [.complex .f64 c.1 c.2] := by
    simp only [RelL]
    exact ⟨_, _, rfl, by simp [Rel, DRel], rfl⟩
  refine Calls.mono (ok_Parts c p h _ I W _ _ hM hr) ?_
  rintro e w' ⟨v, β', I', F', sv, mem', rfl, h2, _, _, _, h6, rfl, _⟩
  refine ⟨?_, h2.below fun b ⟨_, h⟩ => h⟩
  cases p with
  | none =>
    simp only [partsSV, Rel, RelL, DRel] at h6
    obtain ⟨cs, rfl, _, _, rfl, rfl, _, _, rfl, rfl, _, _, rfl, rfl, rfl⟩ := h6
    rfl
  | some aw =>
    simp only [partsSV, Rel, RelL, DRel] at h6
    obtain ⟨cs, rfl, _, _, rfl, rfl, _, _, rfl, rfl, _, _, rfl, rfl, rfl⟩ := h6
    rfl

/-! ### From a slice's end -/
/-- What has come when k rounds are over. -/
def upto {α : Type} (f : Nat → α) (k : Nat) : List α := (List.range k).map f
theorem upto_succ {α : Type} (f : Nat → α) (k : Nat) : upto f (k + 1) = upto f k ++ [f k] := by simp [upto, List.range_succ]
theorem upto_length {α : Type} (f : Nat → α) (k : Nat) : (upto f k).length = k := by simp [upto]

/-- The round's index and cell: from the end. -/
def fb (zs : List (Nat × Nat)) (j : Nat) : Int × (Nat × Nat) := ((zs.length : Int) - 1 - j, zs[zs.length - 1 - j]?.getD (0, 0))

set_option maxRecDepth 100000 in
set_option maxHeartbeats 2000000 in
theorem back1_in (F : Fence) (n : Nat) (h8 : F.fn 95) (hro : F.round = none) (hn : 1 ≤ n) (l Bs n₀ b off cap : Nat) (zs : List (Nat × Nat)) (hreach : zs.length ≤ 140737488355328) (hb : b < n₀) (J Jx : List Nat → World → Prop)
    (hY : ∀ pre x W, J pre W → pre.length < zs.length → YieldAt F (n - 1) PR l #[.int .i64 (fb zs x).1, .complex .f64 (fb zs x).2.1 (fb zs x).2.2] W fun e W' =>
      (e = .returned (.bool true) ∧ J (pre ++ [x]) W' ∧ Below n₀ W W') ∨ (e = .returned (.bool false) ∧ Jx (pre ++ [x]) W'))
    (W : World) (hBs : W.cell? ⟨Bs, 0, none⟩ = some (.slice (some ⟨b, off, none⟩) zs.length cap)) (hBn : Bs < n₀)
    (hc : ∀ j z, zs[j]? = some z → W.cell? ⟨b, off + j, none⟩ = some (.complex .f64 z.1 z.2)) (h0 : J [] W) :
    CallsIn F n PR 95 #[.func (.yield l) #[] #[], .pointer (some ⟨Bs, 0, none⟩)] W fun e W' => (∃ v, e = .returned v) ∧
      ((∃ ys, ys = upto id zs.length ∧ J ys W') ∨ (∃ pre, (∃ k, k ≤ zs.length ∧ pre = upto id k) ∧ Jx pre W')) := by
  refine callsIn_of_wp Try.func95 rfl h8 ?_ hro
  simp only [Try.ntmps95, List.size_toArray, List.length_cons, List.length_nil, Nat.reduceAdd, Nat.reduceSub, Array.replicate_succ, Array.replicate_zero, List.push_toArray, List.append_toArray, List.nil_append, List.cons_append]
  gi_wp2
  gi_loopw [3] (fun i wr => ∃ k : Nat, k ≤ zs.length ∧ i = .int .i64 ((zs.length : Int) - 1 - k) ∧ J (upto id k) wr ∧ Below n₀ W wr)
    (fun i _ => (intOf i + 1).toNat)
  case atStart => exact ⟨0, Nat.zero_le _, by simp, h0, Below.refl _ _⟩
  case round =>
    obtain ⟨k, hk, rfl, hJs, hnx⟩ := hrel
    have hBx : wr.cell? ⟨Bs, 0, none⟩ = some (.slice (some ⟨b, off, none⟩) zs.length cap) := (hnx.cell (p := ⟨Bs, 0, none⟩) hBn).trans hBs
    by_cases hlt : k < zs.length
    · have hz : zs[zs.length - 1 - k]? = some (fb zs k).2 := by
        have : zs.length - 1 - k < zs.length := by omega
        simp [fb, this]
      have hcx : wr.cell? ⟨b, off + (zs.length - 1 - k), none⟩ = some (.complex .f64 (fb zs k).2.1 (fb zs k).2.2) := (hnx.cell (p := ⟨b, off + (zs.length - 1 - k), none⟩) hb).trans (hc _ _ hz)
      obtain ⟨fn, tmps, assign, body, hy, hR⟩ := hY _ k wr hJs (by rw [upto_length]; exact hlt)
      have e1 : (fb zs k).1 = (zs.length : Int) - 1 - k := rfl
      rw [e1] at hy
      have hnn : ¬ ((zs.length : Int) - 1 - k < 0) := by omega
      gi_wp2
      refine hR.mono ?_
      rintro e W3 (⟨rfl, hJ3, hk3⟩ | ⟨rfl, hJx3⟩)
      · gi_wp2
        go_roundw
        case rel => exact ⟨k + 1, by omega, by congr 1; omega, by rw [upto_succ]; exact hJ3, hnx.trans hk3⟩
        case measure => simp [intOf]; omega
      · gi_wp2
        refine bodyPost_ret (results_none rfl _ _ _) rfl ?_
        exact ⟨⟨_, rfl⟩, .inr ⟨_, ⟨k + 1, by omega, (upto_succ _ _).symm⟩, hJx3⟩⟩
    · obtain rfl : k = zs.length := by omega
      have e0 : (zs.length : Int) - 1 - (zs.length : Int) = -1 := by omega
      rw [e0]
      gi_wp2
      go_end0
      exact ⟨⟨_, rfl⟩, .inl ⟨_, rfl, hJs⟩⟩

set_option maxRecDepth 100000 in
set_option maxHeartbeats 1000000 in
/-- .. at the nil slice: no round. -/
theorem back1_nil_in (F : Fence) (n : Nat) (h8 : F.fn 95) (hro : F.round = none) (l Bs : Nat) (J : List Nat → World → Prop) (a : Option Addr) (W : World) (hBs : W.cell? ⟨Bs, 0, none⟩ = some (.slice a 0 0)) (h0 : J [] W) :
    CallsIn F n PR 95 #[.func (.yield l) #[] #[], .pointer (some ⟨Bs, 0, none⟩)] W fun e W' => (∃ v, e = .returned v) ∧ J [] W' := by
  refine callsIn_of_wp Try.func95 rfl h8 ?_ hro
  simp only [Try.ntmps95, List.size_toArray, List.length_cons, List.length_nil, Nat.reduceAdd, Nat.reduceSub, Array.replicate_succ, Array.replicate_zero, List.push_toArray, List.append_toArray, List.nil_append, List.cons_append]
  gi_wp2
  gi_loopw [3] (fun i wr => i = .int .i64 (-1) ∧ J [] wr) (fun _ _ => 0)
  case atStart => exact ⟨rfl, h0⟩
  case round =>
    obtain ⟨rfl, hJs⟩ := hrel
    gi_wp2
    go_end0
    exact ⟨⟨_, rfl⟩, hJs⟩

set_option maxHeartbeats 1000000 in
/-- The slice value is boxed; the function value captures the box. -/
theorem back_in (F : Fence) (n : Nat) (h6 : F.fn 94) (hro : F.round = none) (a : Option Addr) (len cap : Nat) (w : World) :
    CallsIn F n PR 94 #[.slice a len cap] w fun e w' => e = .returned (.func (.func 95) #[] #[.pointer (some ⟨w.heap.size, 0, none⟩)]) ∧ w' = w.alloc (.cells #[.slice a len cap] 96) := by
  refine callsIn_of_wp Try.func94 rfl h6 ?_ hro
  simp only [Try.ntmps94, List.size_toArray, List.length_cons, List.length_nil, Nat.reduceAdd, Nat.reduceSub, Array.replicate_succ, Array.replicate_zero, List.push_toArray, List.append_toArray, List.nil_append, List.cons_append]
  gi_wp2
  go_ret
  exact ⟨rfl, rfl⟩

/-- The slice value sv holds the cells zs, in a block below n₀; or there are none. -/
def Cpx (n₀ : Nat) (W : World) (sv : Value) (zs : List (Nat × Nat)) : Prop :=
  (∃ a, sv = .slice a 0 0 ∧ zs = []) ∨ ∃ b off cap, sv = .slice (some ⟨b, off, none⟩) zs.length cap ∧ b < n₀ ∧ ∀ j z, zs[j]? = some z → W.cell? ⟨b, off + j, none⟩ = some (.complex .f64 z.1 z.2)
theorem Cpx.below {n₀ : Nat} {A B : World} (h : Below n₀ A B) {sv : Value} {zs : List (Nat × Nat)} : Cpx n₀ A sv zs → Cpx n₀ B sv zs
  | .inl e => .inl e
  | .inr ⟨b, off, cap, e, hb, hc⟩ => .inr ⟨b, off, cap, e, hb, fun j z hj => (h.cell (p := ⟨b, off + j, none⟩) hb).trans (hc j z hj)⟩
theorem Cpx.mono {n₀ n₁ : Nat} {A : World} (h : n₀ ≤ n₁) {sv : Value} {zs : List (Nat × Nat)} : Cpx n₀ A sv zs → Cpx n₁ A sv zs
  | .inl e => .inl e
  | .inr ⟨b, off, cap, e, hb, hc⟩ => .inr ⟨b, off, cap, e, by omega, hc⟩

/-- What it hands back stops where the body says so: at all cells, from the end; or at the first k of these. -/
theorem back_stops (F : Fence) (n : Nat) (h8 : F.fn 95) (hro : F.round = none) (hn : 1 ≤ n) (Bs n₀ : Nat) (sv : Value) (zs : List (Nat × Nat)) (hreach : zs.length ≤ 140737488355328) (w : World) (hBs : Bs < n₀) (hn₀ : n₀ ≤ w.heap.size)
    (hc : w.cell? ⟨Bs, 0, none⟩ = some sv) (hI : Cpx n₀ w sv zs) :
    SeqStopsK F n PR 95 #[.pointer (some ⟨Bs, 0, none⟩)] (fun x : Nat => #[Value.int .i64 (fb zs x).1, Value.complex .f64 (fb zs x).2.1 (fb zs x).2.2]) (Below n₀) (fun ys => ys = upto id zs.length)
      (fun pre => ∃ k, k ≤ zs.length ∧ pre = upto id k) zs.length w := fun l J Jx W hW _ _ hY h0 => by
  have hc' := (hW.cell (p := ⟨Bs, 0, none⟩) (Nat.lt_of_lt_of_le hBs hn₀)).trans hc
  rcases hI.below (hW.mono hn₀) with ⟨a, rfl, rfl⟩ | ⟨b, off, cap, rfl, hb, hcs⟩
  · exact (back1_nil_in F n h8 hro l Bs J a W hc' h0).mono fun e W' ⟨he, hj⟩ => ⟨he, .inl ⟨_, rfl, hj⟩⟩
  · exact back1_in F n h8 hro hn l Bs n₀ b off cap zs hreach hb J Jx hY W hc' hBs hcs h0

end Go.Proofs.Ytiaceoomiflgcaa
