/-
  Plain: what a call changes of a pipe's list and counts.
-/
import Derived.Test.YtophlodlencgiaaPipeO
namespace Go.V

theorem PSt.meet0_spec (s : PSt) : (s.meet 0).1.put = s.put ∧ (s.meet 0).1.room = s.room ∧ (s.meet 0).1.got = s.got ∧ (s.meet 0).1.back = s.back ∧ (((s.meet 0).2 = 8 ∧ (s.meet 0).1.n = 0) ∨ ((s.meet 0).2 = 9 ∧ (s.meet 0).1.n = s.n) ∨ ((s.meet 0).2 = 0 ∧ (s.meet 0).1.n = s.n)) := by
  unfold PSt.meet
  dsimp only
  split
  · exact ⟨rfl, rfl, rfl, rfl, .inl ⟨rfl, rfl⟩⟩
  · split
    · exact ⟨rfl, rfl, rfl, rfl, .inr (.inl ⟨rfl, rfl⟩)⟩
    · exact ⟨rfl, rfl, rfl, rfl, .inr (.inr ⟨rfl, rfl⟩)⟩

theorem PSt.meet1_spec (s : PSt) : (s.meet 1).1.put = s.put ∧ (s.meet 1).1.n = s.n ∧ (((s.meet 1).2 = 8 ∧ (s.meet 1).1.got = 0 ∧ (s.meet 1).1.back = 0) ∨ ((s.meet 1).2 = 9 ∧ (s.meet 1).1.got = s.got ∧ (s.meet 1).1.back = s.back) ∨ ((s.meet 1).2 = 0 ∧ (s.meet 1).1.got = s.got ∧ (s.meet 1).1.back = s.back)) := by
  unfold PSt.meet
  dsimp only
  split
  · exact ⟨rfl, rfl, .inl ⟨rfl, rfl, rfl⟩⟩
  · split
    · exact ⟨rfl, rfl, .inr (.inl ⟨rfl, rfl, rfl⟩)⟩
    · exact ⟨rfl, rfl, .inr (.inr ⟨rfl, rfl, rfl⟩)⟩

theorem PSt.step_send {s s' : PSt} {k : Int} {n : Nat} {g : Nat → Nat → DV} {x : Nat → Int} {d : Option DV} {v : Int} (h : PSt.step s 0 k n g x = (s', d, v)) :
    s'.got = s.got ∧ s'.back = s.back ∧ ((v = 8 ∧ s'.n = 0) ∨ (v = 0 ∧ s'.n = s.n + 1 ∧ (∀ i, i < s.n + 1 → s'.put i = if i < s.n then s.put i else .seq n 1 g) ∧ s.n < (s.room + s.back).toNat) ∨ (v ≠ 8 ∧ v ≠ 0 ∧ s'.n = s.n ∧ s'.put = s.put)) := by
  rw [PSt.step, if_pos rfl] at h
  cases h
  obtain ⟨m1, m2, m3, m4, m5⟩ := s.meet0_spec
  unfold PSt.send
  generalize s.meet 0 = t at *
  obtain ⟨t, e⟩ := t
  simp only at m1 m2 m3 m4 m5
  split
  · exact ⟨rfl, rfl, .inr (.inr ⟨by simp, by simp, rfl, rfl⟩)⟩
  · split
    · exact ⟨rfl, rfl, .inr (.inr ⟨by simp, by simp, rfl, rfl⟩)⟩
    · split
      · exact ⟨rfl, rfl, .inr (.inr ⟨by simp, by simp, rfl, rfl⟩)⟩
      · dsimp only
        split
        · refine ⟨m3, m4, ?_⟩
          rcases m5 with ⟨rfl, h⟩ | ⟨rfl, h⟩ | ⟨rfl, h⟩
          · exact .inl ⟨rfl, h⟩
          · exact .inr (.inr ⟨by simp, by simp, h, m1⟩)
          · rename_i h0; exact (h0 rfl).elim
        · rename_i h0
          have h0 : e = 0 := by simpa using h0
          have hn : t.n = s.n := by omega
          split
          · exact ⟨m3, m4, .inr (.inr ⟨by simp, by simp, hn, m1⟩)⟩
          · rename_i hr
            refine ⟨m3, m4, .inr (.inl ⟨rfl, by simp only; omega, fun i _ => ?_, by omega⟩)⟩
            simp only [hn, m1]

theorem PSt.step_hs {s s' : PSt} {kind k : Int} {n : Nat} {g : Nat → Nat → DV} {x : Nat → Int} {d : Option DV} {v : Int} (hk : kind = 3 ∨ kind = 4) (h : PSt.step s kind k n g x = (s', d, v)) :
    s'.got = s.got ∧ s'.back = s.back ∧ s'.n = s.n ∧ s'.put = s.put := by
  rw [PSt.step, if_neg (by omega), if_neg (by omega)] at h
  split at h
  · cases h
    unfold PSt.hold
    split
    · exact ⟨rfl, rfl, rfl, rfl⟩
    · split <;> exact ⟨rfl, rfl, rfl, rfl⟩
  · rw [if_pos (by omega)] at h
    cases h
    unfold PSt.start
    split
    · exact ⟨rfl, rfl, rfl, rfl⟩
    · split <;> exact ⟨rfl, rfl, rfl, rfl⟩

theorem PSt.step_release {s s' : PSt} {k : Int} {n : Nat} {g : Nat → Nat → DV} {x : Nat → Int} {d : Option DV} {v : Int} (h : PSt.step s 2 k n g x = (s', d, v)) :
    s'.n = s.n ∧ s'.put = s.put ∧ ((v = 8 ∧ s'.got = 0 ∧ s'.back = 0) ∨ (v = 0 ∧ s'.got = s.got ∧ s'.back = s.back + 1) ∨ (v ≠ 8 ∧ v ≠ 0 ∧ s'.got = s.got ∧ s'.back = s.back)) := by
  rw [PSt.step, if_neg (by decide), if_pos rfl] at h
  cases h
  obtain ⟨m1, m2, m3⟩ := PSt.meet1_spec { s with hand := s.hand - 1 }
  unfold PSt.release
  generalize PSt.meet { s with hand := s.hand - 1 } 1 = t at *
  obtain ⟨t, e⟩ := t
  simp only at m1 m2 m3
  split
  · exact ⟨rfl, rfl, .inr (.inr ⟨by simp, by simp, rfl, rfl⟩)⟩
  · split
    · exact ⟨rfl, rfl, .inr (.inr ⟨by simp, by simp, rfl, rfl⟩)⟩
    · dsimp only
      split
      · refine ⟨m2, m1, ?_⟩
        rcases m3 with ⟨rfl, h1, h2⟩ | ⟨rfl, h1, h2⟩ | ⟨rfl, h1, h2⟩
        · exact .inl ⟨rfl, h1, h2⟩
        · exact .inr (.inr ⟨by simp, by simp, h1, h2⟩)
        · rename_i h0; exact (h0 rfl).elim
      · rename_i h0
        have h0 : e = 0 := by simpa using h0
        refine ⟨m2, m1, .inr (.inl ⟨rfl, ?_, ?_⟩)⟩ <;> (simp only; omega)

theorem PSt.step_recv {s s' : PSt} {kind k : Int} {n : Nat} {g : Nat → Nat → DV} {x : Nat → Int} {d : Option DV} {v : Int} (hg0 : 0 ≤ s.got) (hk : kind ≠ 0 ∧ kind ≠ 2 ∧ kind ≠ 3 ∧ kind ≠ 4) (h : PSt.step s kind k n g x = (s', d, v)) :
    s'.n = s.n ∧ s'.put = s.put ∧ ((v = 8 ∧ s'.got = 0 ∧ s'.back = 0) ∨ (v = 0 ∧ s'.got = s.got + 1 ∧ s'.back = s.back ∧ s.got.toNat < s.n ∧ d = some (s.put s.got.toNat)) ∨ (v ≠ 8 ∧ v ≠ 0 ∧ s'.got = s.got ∧ s'.back = s.back)) := by
  rw [PSt.step, if_neg hk.1, if_neg hk.2.1, if_neg hk.2.2.1, if_neg hk.2.2.2] at h
  obtain ⟨m1, m2, m3⟩ := s.meet1_spec
  unfold PSt.recv at h
  generalize s.meet 1 = t at *
  obtain ⟨t, e⟩ := t
  simp only at m1 m2 m3
  split at h
  · cases h
    exact ⟨rfl, rfl, .inr (.inr ⟨by simp, by simp, rfl, rfl⟩)⟩
  · dsimp only at h
    split at h
    · cases h
      refine ⟨m2, m1, ?_⟩
      rcases m3 with ⟨rfl, h1, h2⟩ | ⟨rfl, h1, h2⟩ | ⟨rfl, h1, h2⟩
      · exact .inl ⟨rfl, h1, h2⟩
      · exact .inr (.inr ⟨by simp, by simp, h1, h2⟩)
      · rename_i h0; exact (h0 rfl).elim
    · rename_i h0
      have h0 : e = 0 := by simpa using h0
      split at h
      · cases h
        exact ⟨m2, m1, .inr (.inr ⟨by simp, by simp, by omega, by omega⟩)⟩
      · rename_i hr
        cases h
        have hg : t.got = s.got := by omega
        refine ⟨m2, m1, .inr (.inl ⟨rfl, by simp only; omega, by simp only; omega, by omega, by rw [m1, hg]⟩)⟩

theorem PSt.start_room (s : PSt) (kind k : Int) (n : Nat) (g : Nat → Nat → DV) (x : Nat → Int) : (PSt.step s kind k n g x).1.room = s.room := by
  have hm : ∀ (t : PSt) i, (t.meet i).1.room = t.room := by
    intro t i
    unfold PSt.meet
    dsimp only
    split
    · split <;> rfl
    · split <;> rfl
  unfold PSt.step
  split
  · unfold PSt.send
    have := hm s 0
    generalize s.meet 0 = t at *
    split <;> try rfl
    split <;> try rfl
    split <;> try rfl
    dsimp only
    split <;> try exact this
    split <;> exact this
  · split
    · unfold PSt.release
      have := hm { s with hand := s.hand - 1 } 1
      generalize PSt.meet { s with hand := s.hand - 1 } 1 = t at *
      split <;> try rfl
      split <;> try rfl
      dsimp only
      split <;> exact this
    · split
      · unfold PSt.hold
        split <;> try rfl
        split <;> rfl
      · split
        · unfold PSt.start
          split <;> try rfl
          split <;> rfl
        · unfold PSt.recv
          have := hm s 1
          generalize s.meet 1 = t at *
          split <;> try rfl
          dsimp only
          split <;> try exact this
          split <;> exact this

/-- What is told are words that were put. -/
theorem PSt.step_words {s s' : PSt} {c : Nat} (hin : s.In c) {kind k : Int} {n : Nat} {g : Nat → Nat → DV} {x : Nat → Int} {d : DV} {v : Int} (h : PSt.step s kind k n g x = (s', some d, v)) :
    ∃ (m : Nat) (g : Nat → Nat → DV) (x : Nat → Int), d = .seq m 1 g ∧ ∀ j, j < m → g j 0 = .int .i64 (x j) := by
  by_cases h0 : kind = 0
  · rw [PSt.step, if_pos h0] at h; cases h
  by_cases h2 : kind = 2
  · rw [PSt.step, if_neg h0, if_pos h2] at h; cases h
  by_cases h3 : kind = 3
  · rw [PSt.step, if_neg h0, if_neg h2, if_pos h3] at h; cases h
  by_cases h4 : kind = 4
  · rw [PSt.step, if_neg h0, if_neg h2, if_neg h3, if_pos h4] at h; cases h
  rw [PSt.step, if_neg h0, if_neg h2, if_neg h3, if_neg h4] at h
  have hm := (hin.meet 1).puts
  have hg := (hin.meet 1).got
  unfold PSt.recv at h
  generalize s.meet 1 = t at *
  split at h
  · cases h
  · dsimp only at h
    split at h
    · cases h
    · split at h
      · cases h
      · rename_i hlt
        cases h
        obtain ⟨m, g, x, _, h1, h2⟩ := hm t.1.got.toNat (by omega)
        exact ⟨m, g, x, h1, h2⟩

/-- An end that is held is not linked. -/
def PSt.Off (s : PSt) : Prop := ((s.e 0).held = true → (s.e 0).linked = false) ∧ ((s.e 1).held = true → (s.e 1).linked = false)

theorem PSt.Off.meet {s : PSt} (h : s.Off) {i : Nat} (hi : i = 0 ∨ i = 1) (hu : (s.e i).held = false) : (s.meet i).1.Off := by
  obtain ⟨h0, h1⟩ := h
  unfold PSt.meet
  dsimp only
  rcases hi with rfl | rfl
  · split
    · exact ⟨fun _ => rfl, h1⟩
    · split
      · exact ⟨h0, h1⟩
      · refine ⟨fun h => ?_, h1⟩
        have : (s.e 0).held = true := h
        rw [hu] at this; cases this
  · split
    · exact ⟨h0, fun _ => rfl⟩
    · split
      · exact ⟨h0, h1⟩
      · refine ⟨h0, fun h => ?_⟩
        have : (s.e 1).held = true := h
        rw [hu] at this; cases this

theorem PSt.Off.step {s : PSt} (h : s.Off) (kind k : Int) (n : Nat) (g : Nat → Nat → DV) (x : Nat → Int) : (PSt.step s kind k n g x).1.Off := by
  unfold PSt.step
  split
  · have hm := fun hu => h.meet (.inl rfl) (i := 0) hu
    unfold PSt.send
    generalize s.meet 0 = t at *
    split
    · exact h
    · rename_i hu
      have hm := hm (by simpa using hu)
      split
      · exact h
      · split
        · exact h
        · dsimp only
          split
          · exact hm
          · split <;> exact hm
  · split
    · unfold PSt.release
      have h' : PSt.Off { s with hand := s.hand - 1 } := h
      have hm := fun hu => h'.meet (.inr rfl) (i := 1) hu
      generalize PSt.meet { s with hand := s.hand - 1 } 1 = t at *
      split
      · exact h
      · rename_i hu
        have hm := hm (by simpa using hu)
        split
        · exact h
        · dsimp only
          split <;> exact hm
    · split
      · unfold PSt.hold
        split
        · exact h
        · rename_i hi
          split
          · exact h
          · rcases (by omega : k = 0 ∨ k = 1) with rfl | rfl
            · exact ⟨fun _ => rfl, h.2⟩
            · exact ⟨h.1, fun _ => rfl⟩
      · split
        · unfold PSt.start
          split
          · exact h
          · rename_i hi
            split
            · exact h
            · rcases (by omega : k = 0 ∨ k = 1) with rfl | rfl
              · exact ⟨fun _ => rfl, h.2⟩
              · exact ⟨h.1, fun _ => rfl⟩
        · have hm := fun hu => h.meet (.inr rfl) (i := 1) hu
          unfold PSt.recv
          generalize s.meet 1 = t at *
          split
          · exact h
          · rename_i hu
            have hm := hm (by simpa using hu)
            dsimp only
            split
            · exact hm
            · split <;> exact hm

theorem PSt.Off.new (room : Int) : (PSt.new room).Off := ⟨fun _ => rfl, fun _ => rfl⟩

end Go.V
