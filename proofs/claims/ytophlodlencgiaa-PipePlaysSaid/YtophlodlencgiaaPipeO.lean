/-
  Plain: how large a pipe's numbers are behind k calls; the chapter's example.
-/
import Derived.Test.YtophlodlencgiaaPipeM
namespace Go.V

structure PSt.In (s : PSt) (k : Nat) : Prop where
  n : s.n ≤ k
  got : 0 ≤ s.got ∧ s.got ≤ k
  back : 0 ≤ s.back ∧ s.back ≤ k
  hand : 0 ≤ s.hand ∧ s.hand ≤ k
  puts : ∀ i, i < s.n → ∃ (m : Nat) (g : Nat → Nat → DV) (x : Nat → Int), m ≤ 8 ∧ s.put i = .seq m 1 g ∧ ∀ j, j < m → g j 0 = .int .i64 (x j)

theorem PSt.In.ok {s : PSt} {k : Nat} (h : s.In k) (hk : k ≤ 1000000000) : s.Ok :=
  ⟨Nat.le_trans h.n hk, ⟨h.got.1, by have := h.got.2; omega⟩, ⟨h.back.1, by have := h.back.2; omega⟩, ⟨h.hand.1, by have := h.hand.2; omega⟩, fun i hi => let ⟨m, g, _, h1, h2, _⟩ := h.puts i hi; ⟨m, g, h1, h2⟩⟩

theorem PSt.In.succ {s : PSt} {k : Nat} (h : s.In k) : s.In (k + 1) :=
  ⟨Nat.le_succ_of_le h.n, ⟨h.got.1, by have := h.got.2; omega⟩, ⟨h.back.1, by have := h.back.2; omega⟩, ⟨h.hand.1, by have := h.hand.2; omega⟩, h.puts⟩

theorem PSt.In.new (room : Int) (k : Nat) : (PSt.new room).In k :=
  ⟨Nat.zero_le _, ⟨Int.le_refl 0, Int.natCast_nonneg k⟩, ⟨Int.le_refl 0, Int.natCast_nonneg k⟩, ⟨Int.le_refl 0, Int.natCast_nonneg k⟩, fun i hi => absurd hi (Nat.not_lt_zero i)⟩

theorem PSt.In.meet {s : PSt} {k : Nat} (h : s.In k) (i : Nat) : (s.meet i).1.In k := by
  unfold PSt.meet
  dsimp only
  split
  · split
    · exact ⟨Nat.zero_le _, h.got, h.back, h.hand, fun i hi => absurd hi (Nat.not_lt_zero i)⟩
    · exact ⟨h.n, ⟨Int.le_refl 0, Int.natCast_nonneg k⟩, ⟨Int.le_refl 0, Int.natCast_nonneg k⟩, ⟨Int.le_refl 0, Int.natCast_nonneg k⟩, h.puts⟩
  · split
    · exact h
    · exact ⟨h.n, h.got, h.back, h.hand, h.puts⟩

theorem PSt.In.send {s : PSt} {k : Nat} (h : s.In k) (n : Nat) (g : Nat → Nat → DV) (x : Nat → Int) (hg : ∀ j, j < n → g j 0 = .int .i64 (x j)) : (s.send (.seq n 1 g) n x).1.In (k + 1) := by
  have hm := h.meet 0
  unfold PSt.send
  generalize s.meet 0 = t at *
  split
  · exact h.succ
  · split
    · exact h.succ
    · rename_i h8
      split
      · exact h.succ
      · dsimp only
        split
        · exact hm.succ
        · split
          · exact hm.succ
          · refine ⟨Nat.succ_le_succ hm.n, hm.succ.got, hm.succ.back, hm.succ.hand, fun i hi => ?_⟩
            by_cases hin : i < t.1.n
            · simp only [if_pos hin]; exact hm.puts i hin
            · simp only [if_neg hin]; exact ⟨n, g, x, by omega, rfl, hg⟩

theorem PSt.In.recv {s : PSt} {k : Nat} (h : s.In k) : s.recv.1.In (k + 1) := by
  have hm := h.meet 1
  unfold PSt.recv
  generalize s.meet 1 = t at *
  split
  · exact h.succ
  · dsimp only
    split
    · exact hm.succ
    · split
      · exact hm.succ
      · have h1 := hm.got
        have h2 := hm.hand
        exact ⟨hm.succ.n, ⟨by simp only; omega, by simp only; omega⟩, hm.succ.back, ⟨by simp only; omega, by simp only; omega⟩, hm.puts⟩

theorem PSt.In.release {s : PSt} {k : Nat} (h : s.In k) (j : Int) : (s.release j).1.In (k + 1) := by
  unfold PSt.release
  split
  · exact h.succ
  · split
    · exact h.succ
    · rename_i hj
      have h2 := h.hand
      have h' : PSt.In { s with hand := s.hand - 1 } k := ⟨h.n, h.got, h.back, ⟨by simp only; omega, by simp only; omega⟩, h.puts⟩
      have hm := h'.meet 1
      generalize PSt.meet { s with hand := s.hand - 1 } 1 = t at *
      dsimp only
      split
      · exact hm.succ
      · have h1 := hm.back
        exact ⟨hm.succ.n, hm.succ.got, ⟨by simp only; omega, by simp only; omega⟩, hm.succ.hand, hm.puts⟩

theorem PSt.In.hold {s : PSt} {k : Nat} (h : s.In k) (i : Int) : (s.hold i).1.In (k + 1) := by
  unfold PSt.hold
  split
  · exact h.succ
  · split
    · exact h.succ
    · refine ⟨h.succ.n, h.succ.got, h.succ.back, ?_, h.puts⟩
      dsimp only
      split
      · exact ⟨Int.le_refl 0, Int.natCast_nonneg _⟩
      · exact h.succ.hand

theorem PSt.In.start {s : PSt} {k : Nat} (h : s.In k) (i : Int) : (s.start i).1.In (k + 1) := by
  unfold PSt.start
  split
  · exact h.succ
  · split
    · exact h.succ
    · exact ⟨h.succ.n, h.succ.got, h.succ.back, h.succ.hand, h.puts⟩

/-- A call: the pipe then, what is told. -/
def PSt.step (s : PSt) (kind k : Int) (n : Nat) (g : Nat → Nat → DV) (x : Nat → Int) : PSt × Option DV × Int :=
  if kind = 0 then ((s.send (.seq n 1 g) n x).1, none, (s.send (.seq n 1 g) n x).2)
  else if kind = 2 then ((s.release k).1, none, (s.release k).2)
  else if kind = 3 then ((s.hold k).1, none, (s.hold k).2)
  else if kind = 4 then ((s.start k).1, none, (s.start k).2)
  else s.recv

theorem PSt.In.step {s : PSt} {c : Nat} (h : s.In c) (kind k : Int) (n : Nat) (g : Nat → Nat → DV) (x : Nat → Int) (hg : ∀ j, j < n → g j 0 = .int .i64 (x j)) : (PSt.step s kind k n g x).1.In (c + 1) := by
  unfold PSt.step
  split
  · exact h.send n g x hg
  · split
    · exact h.release k
    · split
      · exact h.hold k
      · split
        · exact h.start k
        · exact h.recv

/-! ### The example -/
def D1 (a : Int) : DV := .seq 1 1 fun _ _ => .int .i64 a
def al0 : PSt := PSt.new 1
def al1 : PSt := (al0.send (D1 7) 1 fun _ => 7).1
def al2 : PSt := (al1.send (D1 8) 1 fun _ => 8).1
def al3 : PSt := al2.recv.1
def al4 : PSt := (al3.hold 0).1
def al5 : PSt := (al4.start 0).1
def al6 : PSt := al5.recv.1
def al7 : PSt := al6.recv.1
def al8 : PSt := (al7.send (D1 9) 1 fun _ => 9).1
def al9 : PSt := (al8.send (D1 9) 1 fun _ => 9).1
def al10 : PSt := al9.recv.1

theorem al1_eq : al0.send (D1 7) 1 (fun _ => 7) = (al1, 0) := Prod.ext rfl (by decide)
theorem al2_eq : al1.send (D1 8) 1 (fun _ => 8) = (al2, 5) := Prod.ext rfl (by decide)
theorem al3_eq : al2.recv = (al3, some (D1 7), 0) := Prod.ext rfl (Prod.ext rfl (by decide))
theorem al4_eq : al3.hold 0 = (al4, 0) := Prod.ext rfl (by decide)
theorem al5_eq : al4.start 0 = (al5, 0) := Prod.ext rfl (by decide)
theorem al6_eq : al5.recv = (al6, none, 8) := Prod.ext rfl (Prod.ext rfl (by decide))
theorem al7_eq : al6.recv = (al7, none, 9) := Prod.ext rfl (Prod.ext rfl (by decide))
theorem al8_eq : al7.send (D1 9) 1 (fun _ => 9) = (al8, 8) := Prod.ext rfl (by decide)
theorem al9_eq : al8.send (D1 9) 1 (fun _ => 9) = (al9, 0) := Prod.ext rfl (by decide)
theorem al10_eq : al9.recv = (al10, some (D1 9), 0) := Prod.ext rfl (Prod.ext rfl (by decide))

theorem al_in : al0.In 0 ∧ al1.In 1 ∧ al2.In 2 ∧ al3.In 3 ∧ al4.In 4 ∧ al5.In 5 ∧ al6.In 6 ∧ al7.In 7 ∧ al8.In 8 ∧ al9.In 9 ∧ al10.In 10 := by
  have h0 : al0.In 0 := PSt.In.new 1 0
  have h1 : al1.In 1 := h0.send _ _ _ fun _ _ => rfl
  have h2 : al2.In 2 := h1.send _ _ _ fun _ _ => rfl
  have h3 : al3.In 3 := h2.recv
  have h4 : al4.In 4 := h3.hold 0
  have h5 : al5.In 5 := h4.start 0
  have h6 : al6.In 6 := h5.recv
  have h7 : al7.In 7 := h6.recv
  have h8 : al8.In 8 := h7.send _ _ _ fun _ _ => rfl
  have h9 : al9.In 9 := h8.send _ _ _ fun _ _ => rfl
  exact ⟨h0, h1, h2, h3, h4, h5, h6, h7, h8, h9, h9.recv⟩

end Go.V
