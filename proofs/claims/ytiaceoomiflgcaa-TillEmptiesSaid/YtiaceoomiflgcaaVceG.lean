/-
  What a cell is: two whole numbers as the parts of a complex number; the last cell of an address.
-/
import Derived.Test.YtiaceoomiflgcaaVceF
namespace Go.V

def partO (f : Nat) : Option Int :=
  match fcmpF .geq .f64 f 0 with
  | true => (match fcmpF .leq .f64 f 4679239875398991872 with
    | true => (match f2iF .f64 f with
      | some n => (match decide (IntKind.i64.min ≤ n) && decide (n ≤ IntKind.i64.max) with
        | true => (match fcmpF .eql .f64 (FloatKind.f64.nearest n) f with | true => some n | false => some (-1))
        | false => none)
      | none => none)
    | false => some (-1))
  | false => some (-1)

/-- The parts of a cell: address, word; none: no cell. The outer option: what the code does is defined. -/
def partsO (c : Nat × Nat) : Option (Option (Int × Int)) :=
  match partO c.1, partO c.2 with
  | some a, some w => (match decide (a < 0) || decide (w < 0) with | true => some none | false => some (some (a, w)))
  | _, _ => none

/-- Each cell's parts. -/
def cellsO : List (Nat × Nat) → Option (List (Option (Int × Int)))
  | [] => some []
  | c :: r => (match partsO c, cellsO r with | some p, some l => some (p :: l) | _, _ => none)

def hit (x : Int) : Option (Int × Int) → Option Int
  | some (a, w) => (match decide (a = x) with | true => some w | false => none)
  | none => none

/-- The last cell of an address. -/
def findO (x : Int) : List (Option (Int × Int)) → Option Int
  | [] => none
  | c :: r => (match findO x r with | some w => some w | none => hit x c)

def foundO : Option Int → Int × Bool
  | some w => (w, true)
  | none => (0, false)

theorem cellsO_get : ∀ {zs : List (Nat × Nat)} {l : List (Option (Int × Int))} {i : Nat} {z : Nat × Nat}, cellsO zs = some l → zs[i]? = some z → ∃ p, l[i]? = some p ∧ partsO z = some p
  | [], _, i, z, _, h => by simp at h
  | c :: r, l, i, z, h, hz => by
    simp only [cellsO] at h
    split at h
    · rename_i p l' e1 e2
      cases h
      cases i with
      | zero => simp at hz; subst hz; exact ⟨p, rfl, e1⟩
      | succ i => exact cellsO_get (i := i) e2 (by simpa using hz)
    · cases h

theorem cellsO_length : ∀ {zs : List (Nat × Nat)} {l : List (Option (Int × Int))}, cellsO zs = some l → l.length = zs.length
  | [], l, h => by simp [cellsO] at h; simp [← h]
  | c :: r, l, h => by
    simp only [cellsO] at h
    split at h
    · rename_i p l' e1 e2
      cases h
      simp [cellsO_length e2]
    · cases h

theorem findO_none {x : Int} : ∀ {l : List (Option (Int × Int))}, (∀ c ∈ l, hit x c = none) → findO x l = none
  | [], _ => rfl
  | c :: r, h => by
    simp only [findO]
    rw [findO_none fun d hd => h d (List.mem_cons_of_mem _ hd)]
    exact h c List.mem_cons_self

theorem findO_hit {x w : Int} : ∀ {l : List (Option (Int × Int))} {i : Nat} {c : Option (Int × Int)}, l[i]? = some c → hit x c = some w → (∀ j d, i < j → l[j]? = some d → hit x d = none) → findO x l = some w
  | [], i, c, h, _, _ => by simp at h
  | e :: r, 0, c, h, hw, hn => by
    simp only [List.getElem?_cons_zero, Option.some.injEq] at h
    subst h
    simp only [findO]
    rw [findO_none fun d hd => by
      obtain ⟨j, hj⟩ := List.getElem?_of_mem hd
      exact hn (j + 1) d (by omega) (by simpa using hj)]
    exact hw
  | e :: r, i + 1, c, h, hw, hn => by
    simp only [findO]
    rw [findO_hit (i := i) (by simpa using h) hw fun j d hj hd => hn (j + 1) d (by omega) (by simpa using hd)]

/-- A row of cells. -/
def rowC (at_ : Nat → Nat → SV) : Nat → Option (List (Nat × Nat))
  | 0 => some []
  | n + 1 => (match at_ n 0, rowC at_ n with
    | .dv (.cpx .f64 a b), some l => some (l ++ [(a, b)])
    | _, _ => none)

theorem rowC_ok {at_ : Nat → Nat → SV} : ∀ {n : Nat} {zs : List (Nat × Nat)}, rowC at_ n = some zs → zs.length = n ∧ ∀ j z, zs[j]? = some z → at_ j 0 = .dv (.cpx .f64 z.1 z.2)
  | 0, zs, h => by
    simp only [rowC, Option.some.injEq] at h
    subst h
    exact ⟨rfl, fun j z e => by simp at e⟩
  | n + 1, zs, h => by
    simp only [rowC] at h
    split at h
    · rename_i a b l e1 e2
      cases h
      obtain ⟨hl, hz⟩ := rowC_ok e2
      refine ⟨by simp [hl], fun j z e => ?_⟩
      by_cases hj : j < l.length
      · rw [List.getElem?_append_left hj] at e
        exact hz j z e
      · rw [List.getElem?_append_right (by omega)] at e
        have : j - l.length = 0 := by
          have := (List.getElem?_eq_some_iff.1 e).1
          simp at this
          omega
        rw [this] at e
        simp at e
        subst e
        have : j = n := by omega
        subst this
        exact e1
    · cases h

/-- What lay stays. -/
theorem MSat.below {O : Type} [Objs O] {β : Nat → HI} {I : Nat → Prop} {w w' : World} {F : Nat → Nat → Prop} {mem : List (Chunk O)} (h : MSat β I w F mem) (hs : w.heap.size ≤ w'.heap.size) (hb : ∀ b, b < w.heap.size → w'.heap[b]? = w.heap[b]?) : MSat β I w' F mem where
  chunk k c hc := CSat.mono (List.getElem?_eq_some_iff.1 hc).1 (fun _ _ => rfl) (Nat.le_refl _) (fun _ h => h) (fun b hbI => hb b (hbI.elim (h.whole b) fun hF => (h.old k b hF).1)) (h.chunk k c hc)
  apart := h.apart
  none := h.none
  old k b hF := ⟨Nat.lt_of_lt_of_le (h.old k b hF).1 hs, (h.old k b hF).2⟩
  wh := ⟨fun b hI => Nat.lt_of_lt_of_le (h.whole b hI) hs, h.wh.2.mono (fun _ h => h) fun k hk => hb k (h.whole k hk)⟩

def findP {O : Type} : Prim O := fun args mem =>
  match args with
  | [.dv .nils, .dv (.int .i64 _)] => some (.tup [.dv (.int .i64 0), .dv (.bool false)], mem)
  | [.vec h, .dv (.int .i64 x)] => (match lget mem h with
    | some (.vec n 1 at_) => (match rowC at_ n with
      | some zs => (match cellsO zs with
        | some ps => (match foundO (findO x ps) with | (w, b) => some (.tup [.dv (.int .i64 w), .dv (.bool b)], mem))
        | none => none)
      | none => none)
    | _ => none)
  | [.win h lo n _ 1, .dv (.int .i64 x)] => (match lget mem h with
    | some (.vec N 1 at_) => (match Nat.ble (lo + n) N with
      | true => (match rowC (fun i f => at_ (lo + i) f) n with
        | some zs => (match cellsO zs with
          | some ps => (match foundO (findO x ps) with | (w, b) => some (.tup [.dv (.int .i64 w), .dv (.bool b)], mem))
          | none => none)
        | none => none)
      | false => none)
    | _ => none)
  | _ => none

end Go.V
