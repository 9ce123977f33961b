/-
  Plain: what holds of a pipe behind k calls: links, marks, counts.
-/
import Derived.Test.YtophlodlencgiaaPipeX
namespace Go.V

/-- A mark is the sum of two epochs, each as it was; if one's own is still the same, the other is known. -/
def MarkOk (x y : PEnd) : Prop := ∃ p q, x.mark = p + q ∧ 0 ≤ p ∧ p ≤ x.epoch ∧ 0 ≤ q ∧ q ≤ y.epoch ∧ (p = x.epoch → x.known = q)

structure Ends (a b : PEnd) (n : Nat) (got back hand room : Int) (k : Nat) : Prop where
  ea : 0 ≤ a.epoch ∧ a.epoch ≤ k
  eb : 0 ≤ b.epoch ∧ b.epoch ≤ k
  ka : -1 ≤ a.known ∧ a.known ≤ b.epoch
  kb : -1 ≤ b.known ∧ b.known ≤ a.epoch
  ma : MarkOk a b
  mb : MarkOk b a
  la : a.linked = true → 0 ≤ a.known
  lb : b.linked = true → 0 ≤ b.known
  ll : a.linked = true → b.linked = true → a.known = b.epoch ∨ b.known = a.epoch
  x1 : b.known = a.epoch → a.known ≠ b.epoch → b.linked = false ∧ got = 0 ∧ back = 0 ∧ hand = 0
  x0 : a.known = b.epoch → b.known ≠ a.epoch → a.linked = false ∧ n = 0
  ag : a.known = b.epoch → b.known = a.epoch → back ≤ got ∧ got ≤ n ∧ n - back ≤ room ∧ hand ≤ got - back
  hh : 0 ≤ hand ∧ hand ≤ room
  hb : b.held = true → hand = 0
  gb : 0 ≤ got ∧ 0 ≤ back
  rm : 0 ≤ room

def PSt.Inv (s : PSt) (k : Nat) : Prop := Ends (s.e 0) (s.e 1) s.n s.got s.back s.hand s.room k

theorem MarkOk.new (x y : PEnd) (h : x.known = y.epoch) (hx : 0 ≤ x.epoch) (hy : 0 ≤ y.epoch) (hm : x.mark = x.epoch + x.known) : MarkOk x y :=
  ⟨x.epoch, x.known, hm, hx, Int.le_refl _, by omega, by omega, fun _ => rfl⟩

/-- A mark that is the sum of both epochs was made by one who knows the other. -/
theorem MarkOk.knows {x y : PEnd} (h : MarkOk x y) (hm : x.mark = x.epoch + y.epoch) : x.known = y.epoch := by
  obtain ⟨p, q, h1, _, h2, _, h3, h4⟩ := h
  have : p = x.epoch := by omega
  rw [h4 this]; omega

theorem Ends.succ {a b : PEnd} {n : Nat} {got back hand room : Int} {k : Nat} (h : Ends a b n got back hand room k) : Ends a b n got back hand room (k + 1) :=
  { h with ea := ⟨h.ea.1, by have := h.ea.2; omega⟩, eb := ⟨h.eb.1, by have := h.eb.2; omega⟩ }

theorem link_small {x : PEnd} {k : Nat} (hk : k ≤ 1000) (he : 0 ≤ x.epoch ∧ x.epoch ≤ k) (hn : 0 ≤ x.known ∧ x.known ≤ k) : x.link = x.epoch + x.known := by
  unfold PEnd.link; omega

theorem updE_same (e : Nat → PEnd) (i : Nat) (x : PEnd) : updE e i x i = x := by simp [updE]
theorem updE_ne (e : Nat → PEnd) {i j : Nat} (x : PEnd) (h : j ≠ i) : updE e i x j = e j := by simp [updE, h]

/-- Behind a meeting of the giver. -/
theorem PSt.Inv.meet0 {s : PSt} {k : Nat} (h : s.Inv k) (hk : k ≤ 1000) : (s.meet 0).1.Inv k ∧ ((s.meet 0).2 = 0 → ((s.meet 0).1.e 0).known = ((s.meet 0).1.e 1).epoch ∧ ((s.meet 0).1.e 1).known = ((s.meet 0).1.e 0).epoch) := by
  obtain ⟨ea, eb, ka, kb, ma, mb, la, lb, ll, x1, x0, ag, hh, hb, gb, rm⟩ := h
  unfold PSt.meet
  dsimp only
  split
  · rename_i hne
    have hne : (s.e 0).known ≠ (s.e 1).epoch := hne
    refine ⟨?_, fun h => by simp at h⟩
    change Ends (updE s.e 0 ?z1 0) (updE s.e 0 ?z1 1) 0 _ _ _ _ _
    rw [updE_same, updE_ne _ _ (by decide)]
    refine ⟨ea, eb, ⟨by show -1 ≤ (s.e 1).epoch; omega, Int.le_refl _⟩, kb, MarkOk.new _ _ rfl ea.1 eb.1 ?_, mb, (fun h => by cases h), lb, (fun h => by cases h), (fun _ h2 => (h2 rfl).elim), fun _ _ => ⟨rfl, rfl⟩, fun _ h2 => ?_, hh, hb, gb, rm⟩
    · exact link_small (x := { s.e 0 with known := (s.e 1).epoch, linked := false }) hk ea eb
    · obtain ⟨_, g0, b0, h0⟩ := x1 h2 hne
      rw [g0, b0, h0]
      exact ⟨Int.le_refl 0, by simp, by simpa using rm, by simp⟩
  · rename_i he
    have he : (s.e 0).known = (s.e 1).epoch := by simpa using he
    split
    · exact ⟨⟨ea, eb, ka, kb, ma, mb, la, lb, ll, x1, x0, ag, hh, hb, gb, rm⟩, fun h => by simp at h⟩
    · rename_i hd
      have hagree : (s.e 1).known = (s.e 0).epoch := by
        by_cases hl : (s.e 0).linked = true
        · by_cases hx : (s.e 1).known = (s.e 0).epoch
          · exact hx
          · have := (x0 he hx).1; rw [this] at hl; cases hl
        · have h1 : (s.e 1).mark = (s.e 0).link := by
            by_cases h2 : (s.e 1).mark = (s.e 0).link
            · exact h2
            · exact (hd ⟨by simpa using hl, h2⟩).elim
          refine mb.knows ?_
          rw [h1, link_small hk ea ⟨by omega, by omega⟩, he]; omega
      constructor
      · change Ends (updE s.e 0 ?z2 0) (updE s.e 0 ?z2 1) _ _ _ _ _ _
        rw [updE_same, updE_ne _ _ (by decide)]
        exact ⟨ea, eb, ka, kb, ma, mb, fun _ => by show 0 ≤ (s.e 0).known; omega, lb, fun _ _ => .inl he, fun h1 h2 => (h2 he).elim, fun _ h2 => (h2 hagree).elim, ag, hh, hb, gb, rm⟩
      · intro _
        change (updE s.e 0 ?z3 0).known = (updE s.e 0 ?z3 1).epoch ∧ (updE s.e 0 ?z3 1).known = (updE s.e 0 ?z3 0).epoch
        rw [updE_same, updE_ne _ _ (by decide)]
        exact ⟨he, hagree⟩

/-- Behind a meeting of the taker. -/
theorem PSt.Inv.meet1 {s : PSt} {k : Nat} (h : s.Inv k) (hk : k ≤ 1000) : (s.meet 1).1.Inv k ∧ ((s.meet 1).2 = 0 → ((s.meet 1).1.e 0).known = ((s.meet 1).1.e 1).epoch ∧ ((s.meet 1).1.e 1).known = ((s.meet 1).1.e 0).epoch) := by
  obtain ⟨ea, eb, ka, kb, ma, mb, la, lb, ll, x1, x0, ag, hh, hb, gb, rm⟩ := h
  unfold PSt.meet
  dsimp only
  split
  · rename_i hne
    have hne : (s.e 1).known ≠ (s.e 0).epoch := hne
    refine ⟨?_, fun h => by simp at h⟩
    change Ends (updE s.e 1 ?z4 0) (updE s.e 1 ?z4 1) _ _ _ _ _ _
    rw [updE_same, updE_ne _ _ (by decide)]
    refine ⟨ea, eb, ka, ⟨by show -1 ≤ (s.e 0).epoch; omega, Int.le_refl _⟩, ma, MarkOk.new _ _ rfl eb.1 ea.1 ?_, la, (fun h => by cases h), (fun _ h => by cases h), fun _ _ => ⟨rfl, rfl, rfl, rfl⟩, (fun _ h2 => (h2 rfl).elim), fun h2 _ => ?_, ⟨Int.le_refl 0, rm⟩, fun _ => rfl, ⟨Int.le_refl 0, Int.le_refl 0⟩, rm⟩
    · exact link_small (x := { s.e 1 with known := (s.e 0).epoch, linked := false }) hk eb ea
    · obtain ⟨_, n0⟩ := x0 h2 hne
      simp only [if_neg (show ¬ (1 = 0) by decide)]
      rw [n0]
      exact ⟨Int.le_refl 0, by simp, by simpa using rm, by simp⟩
  · rename_i he
    have he : (s.e 1).known = (s.e 0).epoch := by simpa using he
    split
    · exact ⟨⟨ea, eb, ka, kb, ma, mb, la, lb, ll, x1, x0, ag, hh, hb, gb, rm⟩, fun h => by simp at h⟩
    · rename_i hd
      have hagree : (s.e 0).known = (s.e 1).epoch := by
        by_cases hl : (s.e 1).linked = true
        · by_cases hx : (s.e 0).known = (s.e 1).epoch
          · exact hx
          · have := (x1 he hx).1; rw [this] at hl; cases hl
        · have h1 : (s.e 0).mark = (s.e 1).link := by
            by_cases h2 : (s.e 0).mark = (s.e 1).link
            · exact h2
            · exact (hd ⟨by simpa using hl, h2⟩).elim
          refine ma.knows ?_
          rw [h1, link_small hk eb ⟨by omega, by omega⟩, he]; omega
      constructor
      · change Ends (updE s.e 1 ?z5 0) (updE s.e 1 ?z5 1) _ _ _ _ _ _
        rw [updE_same, updE_ne _ _ (by decide)]
        exact ⟨ea, eb, ka, kb, ma, mb, la, fun _ => by show 0 ≤ (s.e 1).known; omega, fun _ _ => .inr he, fun _ h2 => (h2 hagree).elim, fun h1 h2 => (h2 he).elim, ag, hh, hb, gb, rm⟩
      · intro _
        change (updE s.e 1 ?z6 0).known = (updE s.e 1 ?z6 1).epoch ∧ (updE s.e 1 ?z6 1).known = (updE s.e 1 ?z6 0).epoch
        rw [updE_same, updE_ne _ _ (by decide)]
        exact ⟨hagree, he⟩

theorem PSt.Inv.send {s : PSt} {k : Nat} (h : s.Inv k) (hk : k ≤ 1000) (d : DV) (n : Nat) (x : Nat → Int) : (s.send d n x).1.Inv (k + 1) := by
  obtain ⟨hm, hag⟩ := h.meet0 hk
  unfold PSt.send
  generalize s.meet 0 = t at *
  split
  · exact Ends.succ h
  · split
    · exact Ends.succ h
    · split
      · exact Ends.succ h
      · dsimp only
        split
        · exact Ends.succ hm
        · rename_i h0
          split
          · exact Ends.succ hm
          · rename_i hr
            obtain ⟨g0, g1⟩ := hag (by simpa using h0)
            obtain ⟨ea, eb, ka, kb, ma, mb, la, lb, ll, x1, x0, ag, hh, hb, gb, rm⟩ := Ends.succ hm
            obtain ⟨a1, a2, a3, a4⟩ := ag g0 g1
            refine ⟨ea, eb, ka, kb, ma, mb, la, lb, ll, fun _ h2 => (h2 g0).elim, fun _ h2 => (h2 g1).elim, fun _ _ => ⟨a1, ?_, ?_, a4⟩, hh, hb, gb, rm⟩
            · simp only; omega
            · simp only; omega

theorem PSt.Inv.recv {s : PSt} {k : Nat} (h : s.Inv k) (hk : k ≤ 1000) : s.recv.1.Inv (k + 1) := by
  have hm0 := h.meet1 hk
  have hb' : (s.e 1).held = ((s.meet 1).1.e 1).held := by
    unfold PSt.meet
    dsimp only
    split
    · split <;> simp [updE]
    · split <;> simp [updE]
  obtain ⟨hm, hag⟩ := hm0
  unfold PSt.recv
  generalize s.meet 1 = t at *
  split
  · exact Ends.succ h
  · rename_i hu
    dsimp only
    split
    · exact Ends.succ hm
    · rename_i h0
      split
      · exact Ends.succ hm
      · rename_i hr
        obtain ⟨g0, g1⟩ := hag (by simpa using h0)
        obtain ⟨ea, eb, ka, kb, ma, mb, la, lb, ll, x1, x0, ag, hh, hb, gb, rm⟩ := Ends.succ hm
        obtain ⟨a1, a2, a3, a4⟩ := ag g0 g1
        refine ⟨ea, eb, ka, kb, ma, mb, la, lb, ll, fun _ h2 => (h2 g0).elim, fun _ h2 => (h2 g1).elim, fun _ _ => ⟨?_, ?_, a3, ?_⟩, ⟨?_, ?_⟩, fun hx => ?_, ⟨?_, gb.2⟩, rm⟩ <;> try (simp only; omega)
        exact (hu (hb'.trans hx)).elim

theorem PSt.Inv.release {s : PSt} {k : Nat} (h : s.Inv k) (hk : k ≤ 1000) (j : Int) : (s.release j).1.Inv (k + 1) := by
  unfold PSt.release
  split
  · exact Ends.succ h
  · rename_i hu
    split
    · exact Ends.succ h
    · rename_i hj
      have h' : PSt.Inv { s with hand := s.hand - 1 } k := by
        obtain ⟨ea, eb, ka, kb, ma, mb, la, lb, ll, x1, x0, ag, hh, hb, gb, rm⟩ := h
        refine ⟨ea, eb, ka, kb, ma, mb, la, lb, ll, fun h1 h2 => ?_, x0, fun h1 h2 => ?_, ⟨?_, ?_⟩, fun hx => (hu hx).elim, gb, rm⟩
        · have := (x1 h1 h2).2.2.2; omega
        · obtain ⟨a1, a2, a3, a4⟩ := ag h1 h2
          exact ⟨a1, a2, a3, by simp only; omega⟩
        · simp only; omega
        · have := hh.2; simp only; omega
      have hpos : (PSt.meet { s with hand := s.hand - 1 } 1).2 = 0 → (PSt.meet { s with hand := s.hand - 1 } 1).1.hand = s.hand - 1 ∧ (PSt.meet { s with hand := s.hand - 1 } 1).1.back = s.back ∧ (PSt.meet { s with hand := s.hand - 1 } 1).1.got = s.got ∧ s.hand ≤ s.got - s.back := by
        have hmm := (h'.meet1 hk).2
        obtain ⟨ea, eb, ka, kb, ma, mb, la, lb, ll, x1, x0, ag, hh, hb, gb, rm⟩ := h
        revert hmm
        unfold PSt.meet
        dsimp only
        split
        · simp
        · split
          · simp
          · intro h1 _
            obtain ⟨g0, g1⟩ := h1 rfl
            have g0' : (s.e 0).known = (s.e 1).epoch := by simpa [updE] using g0
            have g1' : (s.e 1).known = (s.e 0).epoch := by simpa [updE] using g1
            exact ⟨rfl, rfl, rfl, (ag g0' g1').2.2.2⟩
      obtain ⟨hm, hag⟩ := h'.meet1 hk
      generalize PSt.meet { s with hand := s.hand - 1 } 1 = t at *
      dsimp only
      split
      · exact Ends.succ hm
      · rename_i h0
        have h0 : t.2 = 0 := by simpa using h0
        obtain ⟨g0, g1⟩ := hag h0
        obtain ⟨p1, p2, p3, p4⟩ := hpos h0
        obtain ⟨ea, eb, ka, kb, ma, mb, la, lb, ll, x1, x0, ag, hh, hb, gb, rm⟩ := Ends.succ hm
        obtain ⟨a1, a2, a3, a4⟩ := ag g0 g1
        refine ⟨ea, eb, ka, kb, ma, mb, la, lb, ll, fun _ h2 => (h2 g0).elim, fun _ h2 => (h2 g1).elim, fun _ _ => ⟨?_, a2, ?_, ?_⟩, hh, hb, ⟨gb.1, ?_⟩, rm⟩ <;> (simp only; omega)

theorem PSt.Inv.hold {s : PSt} {k : Nat} (h : s.Inv k) (i : Int) : (s.hold i).1.Inv (k + 1) := by
  unfold PSt.hold
  split
  · exact Ends.succ h
  · rename_i hi
    split
    · exact Ends.succ h
    · obtain ⟨ea, eb, ka, kb, ma, mb, la, lb, ll, x1, x0, ag, hh, hb, gb, rm⟩ := Ends.succ h
      rcases (by omega : i = 0 ∨ i = 1) with rfl | rfl
      · change Ends (updE s.e 0 ?y1 0) (updE s.e 0 ?y1 1) _ _ _ s.hand _ _
        rw [updE_same, updE_ne _ _ (by decide)]
        exact ⟨ea, eb, ka, kb, ma, mb, (fun h => by cases h), lb, (fun h => by cases h), x1, fun h1 h2 => ⟨rfl, (x0 h1 h2).2⟩, ag, hh, hb, gb, rm⟩
      · change Ends (updE s.e 1 ?y2 0) (updE s.e 1 ?y2 1) _ _ _ 0 _ _
        rw [updE_same, updE_ne _ _ (by decide)]
        refine ⟨ea, eb, ka, kb, ma, mb, la, (fun h => by cases h), (fun _ h => by cases h), fun h1 h2 => ⟨rfl, (x1 h1 h2).2.1, (x1 h1 h2).2.2.1, rfl⟩, x0, fun h1 h2 => ?_, ⟨Int.le_refl 0, rm⟩, fun _ => rfl, gb, rm⟩
        obtain ⟨a1, a2, a3, a4⟩ := ag h1 h2
        exact ⟨a1, a2, a3, show (0 : Int) ≤ s.got - s.back by omega⟩

theorem MarkOk.later {x y : PEnd} {x' y' : PEnd} (h : MarkOk x y) (hm : x'.mark = x.mark) (hy : y.epoch ≤ y'.epoch) (hx : (x'.epoch = x.epoch ∧ x'.known = x.known) ∨ x.epoch < x'.epoch) : MarkOk x' y' := by
  obtain ⟨p, q, h1, h2, h3, h4, h5, h6⟩ := h
  rcases hx with ⟨e1, e2⟩ | e1
  · exact ⟨p, q, by rw [hm, h1], h2, by omega, h4, by omega, fun h => by rw [e2]; exact h6 (by omega)⟩
  · exact ⟨p, q, by rw [hm, h1], h2, by omega, h4, by omega, fun h => by omega⟩

theorem PSt.Inv.start {s : PSt} {k : Nat} (h : s.Inv k) (hk : k ≤ 1000) (i : Int) : (s.start i).1.Inv (k + 1) := by
  unfold PSt.start
  split
  · exact Ends.succ h
  · rename_i hi
    split
    · exact Ends.succ h
    · obtain ⟨ea, eb, ka, kb, ma, mb, la, lb, ll, x1, x0, ag, hh, hb, gb, rm⟩ := h
      rcases (by omega : i = 0 ∨ i = 1) with rfl | rfl
      · change Ends (updE s.e 0 { held := false, linked := false, epoch := ((s.e 0).epoch + 1) % 65536, known := -1, mark := (s.e 0).mark } 0) (updE s.e 0 { held := false, linked := false, epoch := ((s.e 0).epoch + 1) % 65536, known := -1, mark := (s.e 0).mark } 1) _ _ _ _ _ _
        rw [updE_same, updE_ne _ _ (by decide)]
        have e1 : ((s.e 0).epoch + 1) % 65536 = (s.e 0).epoch + 1 := by omega
        rw [e1]
        refine ⟨⟨by simp only; omega, by simp only; omega⟩, ⟨eb.1, by omega⟩, ⟨by simp, by simp only; omega⟩, ⟨kb.1, by simp only; omega⟩, ma.later rfl (Int.le_refl _) (.inr (by simp only; omega)), mb.later rfl (by simp only; omega) (.inl ⟨rfl, rfl⟩), (fun h => by cases h), lb, (fun h => by cases h), fun h1 => ?_, fun h1 => ?_, fun h1 => ?_, hh, hb, gb, rm⟩
        · simp only at h1; omega
        · simp only at h1; omega
        · simp only at h1; omega
      · change Ends (updE s.e 1 { held := false, linked := false, epoch := ((s.e 1).epoch + 1) % 65536, known := -1, mark := (s.e 1).mark } 0) (updE s.e 1 { held := false, linked := false, epoch := ((s.e 1).epoch + 1) % 65536, known := -1, mark := (s.e 1).mark } 1) _ _ _ _ _ _
        rw [updE_same, updE_ne _ _ (by decide)]
        have e1 : ((s.e 1).epoch + 1) % 65536 = (s.e 1).epoch + 1 := by omega
        rw [e1]
        refine ⟨⟨ea.1, by omega⟩, ⟨by simp only; omega, by simp only; omega⟩, ⟨ka.1, by simp only; omega⟩, ⟨by simp, by simp only; omega⟩, ma.later rfl (by simp only; omega) (.inl ⟨rfl, rfl⟩), mb.later rfl (Int.le_refl _) (.inr (by simp only; omega)), la, (fun h => by cases h), (fun _ h => by cases h), fun h1 => ?_, fun h1 => ?_, fun h1 h2 => ?_, hh, (fun h => by cases h), gb, rm⟩
        · simp only at h1; omega
        · simp only at h1; omega
        · simp only at h2; omega

theorem PSt.Inv.step {s : PSt} {c : Nat} (h : s.Inv c) (hc : c ≤ 1000) (kind k : Int) (n : Nat) (g : Nat → Nat → DV) (x : Nat → Int) : (PSt.step s kind k n g x).1.Inv (c + 1) := by
  unfold PSt.step
  split
  · exact h.send hc _ n x
  · split
    · exact h.release hc k
    · split
      · exact h.hold k
      · split
        · exact h.start hc k
        · exact h.recv hc

theorem PSt.Inv.new {room : Int} (h : 0 ≤ room) : (PSt.new room).Inv 0 := by
  have hm : MarkOk ⟨false, false, 0, 0, 0⟩ ⟨false, false, 0, 0, 0⟩ := ⟨0, 0, by simp, by simp, by simp, by simp, by simp, fun _ => rfl⟩
  exact ⟨by simp [PSt.new], by simp [PSt.new], by simp [PSt.new], by simp [PSt.new], hm, hm, (fun h => by cases h), (fun h => by cases h), (fun h => by cases h), fun _ h2 => (h2 rfl).elim, fun _ h2 => (h2 rfl).elim, fun _ _ => by simp [PSt.new, h], by simp [PSt.new, h], fun _ => rfl, by simp [PSt.new], h⟩

/-- What waits is not below none; what is held and what waits are not more than there is room for. -/
theorem PSt.Inv.counts {s : PSt} {k : Nat} (h : s.Inv k) (hk : k ≤ 1000) : 0 ≤ s.hand ∧ 0 ≤ s.waits ∧ s.hand + s.waits ≤ s.room := by
  obtain ⟨ea, eb, ka, kb, ma, mb, la, lb, ll, x1, x0, ag, hh, hb, gb, rm⟩ := h
  unfold PSt.waits
  split
  · rename_i hl
    obtain ⟨l0, l1, le⟩ := hl
    have l0 : (s.e 0).linked = true := by simp only [PSt.linked, Bool.and_eq_true] at l0; exact l0.2
    have l1 : (s.e 1).linked = true := by simp only [PSt.linked, Bool.and_eq_true] at l1; exact l1.2
    have n0 := la l0
    have n1 := lb l1
    rw [link_small hk ea ⟨n0, by omega⟩, link_small hk eb ⟨n1, by omega⟩] at le
    have := ll l0 l1
    have g0 : (s.e 0).known = (s.e 1).epoch := by omega
    have g1 : (s.e 1).known = (s.e 0).epoch := by omega
    obtain ⟨a1, a2, a3, a4⟩ := ag g0 g1
    refine ⟨hh.1, by omega, by omega⟩
  · exact ⟨hh.1, Int.le_refl 0, by omega⟩

theorem PSt.meet_hand (s : PSt) : (s.meet 0).1.hand = s.hand := by
  unfold PSt.meet
  dsimp only
  split
  · simp
  · split <;> rfl

theorem PSt.send_hand (s : PSt) (d : DV) (n : Nat) (x : Nat → Int) : (s.send d n x).1.hand = s.hand := by
  have := s.meet_hand
  unfold PSt.send
  generalize s.meet 0 = t at *
  split
  · rfl
  · split
    · rfl
    · split
      · rfl
      · dsimp only
        split
        · exact this
        · split <;> exact this

theorem PSt.hold_same (s : PSt) (i : Int) (h : (s.hold i).2 ≠ 0) : (s.hold i).1 = s := by
  unfold PSt.hold at h ⊢
  split
  · rfl
  · rename_i h1
    rw [if_neg h1] at h
    split
    · rfl
    · rename_i h2
      rw [if_neg h2] at h
      exact (h rfl).elim

theorem PSt.start_same (s : PSt) (i : Int) (h : (s.start i).2 ≠ 0) : (s.start i).1 = s := by
  unfold PSt.start at h ⊢
  split
  · rfl
  · rename_i h1
    rw [if_neg h1] at h
    split
    · rfl
    · rename_i h2
      rw [if_neg h2] at h
      exact (h rfl).elim

end Go.V
