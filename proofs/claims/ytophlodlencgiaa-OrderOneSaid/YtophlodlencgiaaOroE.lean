/-
  Walks: with one answer changed there is no order.
-/
import Derived.Test.YtophlodlencgiaaOroA
import Derived.Test.YtophlodlencgiaaOrdY
import Derived.Test.YtophlodlencgiaaOrdS
namespace Go.Proofs.Ytophlodlencgiaa
open Go.V

/-- What is asked, call by call. -/
structure Asks (n : Nat) (G : Nat → Nat → DV) where
  kd : Nat → Int
  m : Nat → Nat
  g : Nat → Nat → Nat → DV
  x : Nat → Nat → Int
  h0 : ∀ i, i < n → G i 0 = .int .i64 (kd i)
  h1 : ∀ i, i < n → G i 1 = .seq (m i) 1 (g i)
  hx : ∀ i, i < n → ∀ j, j < m i → g i j 0 = .int .i64 (x i j)

/-- How many sent calls, taken calls, messages put, got and given back there are. -/
structure Cn where
  a : Nat
  b : Nat
  p : Nat
  g : Nat
  k : Nat

def Cn.next (room r : Int) (s : Cn) : Cn :=
  if r = 0 then (if room ≤ (s.p : Int) - s.k then ⟨s.a + 1, s.b, s.p, s.g, s.k⟩ else ⟨s.a + 1, s.b, s.p + 1, s.g, s.k⟩)
  else if r = 1 then (if s.g < s.p then ⟨s.a, s.b + 1, s.p, s.g + 1, s.k⟩ else ⟨s.a, s.b + 1, s.p, s.g, s.k⟩)
  else if r = 2 ∧ s.k < s.g then ⟨s.a, s.b + 1, s.p, s.g, s.k + 1⟩ else s

section
variable (room : Int) (r : Nat → Int)

def cn : Nat → Cn
  | 0 => ⟨0, 0, 0, 0, 0⟩
  | c + 1 => (cn c).next room (r c)

/-- Is the queue full? -/
def full (c : Nat) : Prop := room ≤ ((cn room r c).p : Int) - (cn room r c).k
instance (c : Nat) : Decidable (full room r c) := by unfold full; infer_instance

/-- Which call there is: 0 none, 1 a sent one, 2 a taken one. -/
def evt (c : Nat) : Nat := if r c = 0 then 1 else if r c = 1 then 2 else if r c = 2 ∧ (cn room r c).k < (cn room r c).g then 2 else 0

def erI (c : Nat) : Int := if r c = 0 then (if full room r c then 5 else 0) else if r c = 1 then (if (cn room r c).g < (cn room r c).p then 0 else 6) else 0

def isS (c : Nat) : Bool := decide (r c = 0)
def isT (c : Nat) : Bool := decide (evt room r c = 2)
def isP (c : Nat) : Bool := decide (r c = 0) && !decide (full room r c)
def isW (c : Nat) : Bool := decide (evt room r c ≠ 0)

theorem next_a (c : Nat) : (cn room r (c + 1)).a = (cn room r c).a + if r c = 0 then 1 else 0 := by
  simp only [cn, Cn.next]; grind
theorem next_b (c : Nat) : (cn room r (c + 1)).b = (cn room r c).b + if evt room r c = 2 then 1 else 0 := by
  simp only [cn, Cn.next, evt]; grind
theorem next_p (c : Nat) : (cn room r (c + 1)).p = (cn room r c).p + if r c = 0 ∧ ¬ full room r c then 1 else 0 := by
  simp only [cn, Cn.next, full]; grind
theorem next_g (c : Nat) : (cn room r (c + 1)).g = (cn room r c).g + if r c = 1 ∧ (cn room r c).g < (cn room r c).p then 1 else 0 := by
  simp only [cn, Cn.next]; grind
theorem next_k (c : Nat) : (cn room r (c + 1)).k = (cn room r c).k + if r c = 2 ∧ (cn room r c).k < (cn room r c).g then 1 else 0 := by
  simp only [cn, Cn.next]; grind

theorem pick_succ_len (p : Nat → Bool) (c : Nat) : (pick p (c + 1)).length = (pick p c).length + if p c = true then 1 else 0 := by
  rw [pick]; split <;> simp

theorem len_a : ∀ c, (pick (isS r) c).length = (cn room r c).a
  | 0 => rfl
  | c + 1 => by rw [pick_succ_len, len_a c, next_a]; simp [isS]
theorem len_b : ∀ c, (pick (isT room r) c).length = (cn room r c).b
  | 0 => rfl
  | c + 1 => by rw [pick_succ_len, len_b c, next_b]; simp [isT]
theorem len_p : ∀ c, (pick (isP room r) c).length = (cn room r c).p
  | 0 => rfl
  | c + 1 => by rw [pick_succ_len, len_p c, next_p]; simp [isP]
theorem len_w : ∀ c, (pick (isW room r) c).length = (cn room r c).a + (cn room r c).b
  | 0 => rfl
  | c + 1 => by
    rw [pick_succ_len, len_w c, next_a, next_b]
    simp only [isW, evt, decide_eq_true_eq]
    grind

/-- What holds of the counts. -/
theorem cn_inv (hr : 0 ≤ room) : ∀ c, (cn room r c).g ≤ (cn room r c).p ∧ (cn room r c).k ≤ (cn room r c).g ∧ (cn room r c).p ≤ (cn room r c).a ∧ ((cn room r c).p : Int) - (cn room r c).k ≤ room ∧ (cn room r c).a + (cn room r c).b ≤ c
  | 0 => by simp [cn]; omega
  | c + 1 => by
    obtain ⟨h1, h2, h3, h4, h5⟩ := cn_inv hr c
    simp only [cn, Cn.next]
    split
    · split <;> simp only <;> omega
    · split
      · split <;> simp only <;> omega
      · split
        · simp only; omega
        · omega
end

end Go.Proofs.Ytophlodlencgiaa

namespace Go.Proofs.Ytophlodlencgiaa
open Go.V

theorem pick_get_mem (p : Nat → Bool) (n i : Nat) (h : i < (pick p n).length) : (pick p n).getD i 0 ∈ pick p n := by
  rw [List.getD_eq_getElem?_getD, List.getElem?_eq_getElem h]
  exact List.getElem_mem h
theorem pick_get_lt (p : Nat → Bool) (n i : Nat) (h : i < (pick p n).length) : (pick p n).getD i 0 < n := pick_lt p n _ (pick_get_mem p n i h)
theorem pick_true (p : Nat → Bool) : ∀ n i, i ∈ pick p n → p i = true
  | 0, i, h => by simp [pick] at h
  | n + 1, i, h => by
    simp only [pick] at h
    split at h
    · rcases List.mem_append.1 h with h | h
      · exact pick_true p n i h
      · simp at h; subst h; assumption
    · exact pick_true p n i h
theorem pick_mono (p : Nat → Bool) {i j : Nat} (h : i ≤ j) : (pick p i).length ≤ (pick p j).length := by
  obtain ⟨l, hl⟩ := pick_pre p i (j - i)
  rw [Nat.add_sub_cancel' h] at hl
  rw [hl]; simp

section
variable {n : Nat} {G : Nat → Nat → DV} (Q : Asks n G) (room : Int)

def Asks.r (c : Nat) : Int := (Q.kd c).tmod 3
/-- Which call's words a call tells. -/
def Asks.src (c : Nat) : Nat := if Q.r c = 0 then c else (pick (isP room Q.r) n).getD (cn room Q.r c).g 0
def Asks.hasW (c : Nat) : Prop := Q.r c = 0 ∨ Q.r c = 1 ∧ (cn room Q.r c).g < (cn room Q.r c).p
instance (c : Nat) : Decidable (Q.hasW room c) := by unfold Asks.hasW; infer_instance
def Asks.lm (c : Nat) : Nat := if Q.hasW room c then Q.m (Q.src room c) else 0
def Asks.E (c : Nat) : Nat → DV := fun f => match f with
  | 0 => .int .i64 0 | 1 => .int .i64 0 | 2 => .int .i64 (1 + Q.r c) | 3 => .int .i64 (2 * (c : Int) + 1) | 4 => .int .i64 (2 * (c : Int) + 2)
  | 5 => .int .i64 (erI room Q.r c) | 6 => .seq (Q.lm room c) 1 (Q.g (Q.src room c)) | _ => .int .i64 0

def tS (i : Nat) : Nat := (pick (isS Q.r) n).getD i 0
def tT (i : Nat) : Nat := (pick (isT room Q.r) n).getD i 0
def tP (i : Nat) : Nat := (pick (isP room Q.r) n).getD i 0

theorem src_lt {c : Nat} (hc : c < n) (h : Q.hasW room c) : Q.src room c < n := by
  unfold Asks.src
  split
  · exact hc
  · rename_i h0
    rcases h with h | ⟨_, h⟩
    · exact (h0 h).elim
    · refine pick_get_lt _ _ _ ?_
      rw [← len_p] at h
      have := pick_mono (isP room Q.r) (i := c) (j := n) (by omega)
      omega

def Asks.ents (N : Nat) (t : Nat → Nat) (ht : ∀ i, i < N → t i < n) : Ents N (fun i => Q.E room (t i)) where
  co _ := 0
  pe _ := 0
  kd i := 1 + Q.r (t i)
  be i := 2 * (t i : Int) + 1
  en i := 2 * (t i : Int) + 2
  er i := erI room Q.r (t i)
  m i := Q.lm room (t i)
  g i := Q.g (Q.src room (t i))
  x i := Q.x (Q.src room (t i))
  ha _ := 0
  h0 _ _ := rfl
  h1 _ _ := rfl
  h2 _ _ := rfl
  h3 _ _ := rfl
  h4 _ _ := rfl
  h5 _ _ := rfl
  h6 _ _ := rfl
  h7 _ _ := rfl
  hx i hi j hj := by
    by_cases h : Q.hasW room (t i)
    · rw [show Q.lm room (t i) = Q.m (Q.src room (t i)) from if_pos h] at hj
      exact Q.hx _ (src_lt Q room (ht i hi) h) j hj
    · rw [show Q.lm room (t i) = 0 from if_neg h] at hj
      omega

theorem tS_lt (i : Nat) (h : i < (cn room Q.r n).a) : tS Q i < n := pick_get_lt _ _ _ (by rw [len_a room]; exact h)
theorem tT_lt (i : Nat) (h : i < (cn room Q.r n).b) : tT Q room i < n := pick_get_lt _ _ _ (by rw [len_b]; exact h)
theorem tP_lt (i : Nat) (h : i < (cn room Q.r n).p) : tP Q room i < n := pick_get_lt _ _ _ (by rw [len_p]; exact h)
theorem tS_r (i : Nat) (h : i < (cn room Q.r n).a) : Q.r (tS Q i) = 0 := by
  have h' : isS Q.r (tS Q i) = true := pick_true _ _ _ (pick_get_mem (isS Q.r) n i (by rw [len_a room]; exact h))
  simpa [isS] using h'
theorem tT_ev (i : Nat) (h : i < (cn room Q.r n).b) : evt room Q.r (tT Q room i) = 2 := by
  have h' : isT room Q.r (tT Q room i) = true := pick_true _ _ _ (pick_get_mem (isT room Q.r) n i (by rw [len_b]; exact h))
  simpa [isT] using h'
theorem tP_is (i : Nat) (h : i < (cn room Q.r n).p) : Q.r (tP Q room i) = 0 ∧ ¬ full room Q.r (tP Q room i) := by
  have h' : isP room Q.r (tP Q room i) = true := pick_true _ _ _ (pick_get_mem (isP room Q.r) n i (by rw [len_p]; exact h))
  simpa [isP] using h'
theorem tS_at {c : Nat} (hc : c < n) (h : Q.r c = 0) : tS Q (cn room Q.r c).a = c := by
  rw [← len_a]; exact pick_next _ hc (by simpa [isS] using h)
theorem tT_at {c : Nat} (hc : c < n) (h : evt room Q.r c = 2) : tT Q room (cn room Q.r c).b = c := by
  rw [← len_b]; exact pick_next _ hc (by simpa [isT] using h)
theorem tP_at {c : Nat} (hc : c < n) (h : Q.r c = 0) (hf : ¬ full room Q.r c) : tP Q room (cn room Q.r c).p = c := by
  rw [← len_p]; exact pick_next _ hc (by simpa [isP] using ⟨h, hf⟩)

def SS : Ents (cn room Q.r n).a (fun i => Q.E room (tS Q i)) := Q.ents room _ _ (tS_lt Q room)
def TT : Ents (cn room Q.r n).b (fun i => Q.E room (tT Q room i)) := Q.ents room _ _ (tT_lt Q room)

theorem ev_one {c : Nat} : evt room Q.r c = 1 ↔ Q.r c = 0 := by unfold evt; grind
theorem a_lt {c : Nat} (hc : c < n) (h : Q.r c = 0) : (cn room Q.r c).a < (cn room Q.r n).a := by
  have := pick_mono (isS Q.r) (i := c + 1) (j := n) (by omega)
  rw [len_a room, len_a room, next_a, if_pos h] at this
  omega
theorem b_lt {c : Nat} (hc : c < n) (h : evt room Q.r c = 2) : (cn room Q.r c).b < (cn room Q.r n).b := by
  have := pick_mono (isT room Q.r) (i := c + 1) (j := n) (by omega)
  rw [len_b, len_b, next_b, if_pos h] at this
  omega

theorem line : Line (SS Q room) (TT Q room) n (fun c => (cn room Q.r c).a) (fun c => (cn room Q.r c).b) (evt room Q.r) where
  a0 := rfl
  b0 := rfl
  an := rfl
  bn := rfl
  no c hc he := by
    rw [next_a, next_b, he, if_neg (fun h => by rw [(ev_one Q room).2 h] at he; cases he)]
    simp
  snd c hc he := by
    have h0 := (ev_one Q room).1 he
    have ht := tS_at Q room hc h0
    rw [next_a, next_b, he, if_pos h0]
    refine ⟨rfl, rfl, a_lt Q room hc h0, ?_, ?_⟩
    · show 2 * (tS Q _ : Int) + 1 = _; rw [ht]
    · show 2 * (tS Q _ : Int) + 2 = _; rw [ht]
  tkn c hc he := by
    have ht := tT_at Q room hc he
    rw [next_a, next_b, he, if_neg (fun h => by rw [(ev_one Q room).2 h] at he; cases he)]
    refine ⟨rfl, rfl, b_lt Q room hc he, ?_, ?_⟩
    · show 2 * (tT Q room _ : Int) + 1 = _; rw [ht]
    · show 2 * (tT Q room _ : Int) + 2 = _; rw [ht]
  kind c _ := by unfold evt; grind

theorem okS (i : Nat) (hi : i < (cn room Q.r n).a) : (SS Q room).okE i = true ↔ ¬ full room Q.r (tS Q i) := by
  rw [okE_iff]
  show 2 * (tS Q i : Int) + 2 = 0 ∨ erI room Q.r (tS Q i) = 0 ↔ _
  rw [erI, if_pos (tS_r Q room i hi)]
  grind

theorem eff_eq : ∀ c, c ≤ n → (SS Q room).eff (cn room Q.r c).a = (pick (isP room Q.r) c).map fun t => (cn room Q.r t).a
  | 0, _ => rfl
  | c + 1, hc => by
    have ih := eff_eq c (by omega)
    rw [next_a, pick]
    by_cases h0 : Q.r c = 0
    · have hk := okS Q room _ (a_lt Q room (show c < n by omega) h0)
      rw [tS_at Q room (by omega) h0] at hk
      rw [if_pos h0, Ents.eff, ih]
      by_cases hf : full room Q.r c
      · have : isP room Q.r c = false := by simp [isP, hf]
        rw [this, if_neg (by rw [hk]; exact fun h => h hf)]
        rfl
      · have : isP room Q.r c = true := by simp [isP, hf, h0]
        rw [this, if_pos (by rw [hk]; exact hf)]
        simp
    · have : isP room Q.r c = false := by simp [isP, h0]
      rw [this, if_neg h0]
      exact ih

theorem got_eq : ∀ c, c ≤ n → (TT Q room).got (cn room Q.r c).b = (cn room Q.r c).g
  | 0, _ => rfl
  | c + 1, hc => by
    have ih := got_eq c (by omega)
    rw [next_b, next_g]
    by_cases he : evt room Q.r c = 2
    · rw [if_pos he, Ents.got, ih]
      have ht := tT_at Q room (show c < n by omega) he
      congr 1
      have e1 : (TT Q room).kd (cn room Q.r c).b = 1 + Q.r c := by show 1 + Q.r (tT Q room _) = _; rw [ht]
      have e2 : (TT Q room).okE (cn room Q.r c).b = true ↔ erI room Q.r c = 0 := by
        rw [okE_iff]
        show 2 * (tT Q room _ : Int) + 2 = 0 ∨ erI room Q.r (tT Q room _) = 0 ↔ _
        rw [ht]; grind
      rw [e1]
      simp only [e2, erI]
      unfold evt at he
      grind
    · rw [if_neg he]
      unfold evt at he
      grind

theorem back_eq : ∀ c, c ≤ n → (TT Q room).back (cn room Q.r c).b = (cn room Q.r c).k
  | 0, _ => rfl
  | c + 1, hc => by
    have ih := back_eq c (by omega)
    rw [next_b, next_k]
    by_cases he : evt room Q.r c = 2
    · rw [if_pos he, Ents.back, ih]
      have ht := tT_at Q room (show c < n by omega) he
      congr 1
      have e1 : (TT Q room).kd (cn room Q.r c).b = 1 + Q.r c := by show 1 + Q.r (tT Q room _) = _; rw [ht]
      have e2 : (TT Q room).okE (cn room Q.r c).b = true ↔ erI room Q.r c = 0 := by
        rw [okE_iff]
        show 2 * (tT Q room _ : Int) + 2 = 0 ∨ erI room Q.r (tT Q room _) = 0 ↔ _
        rw [ht]; grind
      rw [e1]
      simp only [e2, erI]
      unfold evt at he
      grind
    · rw [if_neg he]
      unfold evt at he
      grind

theorem msg_eq {q : Nat} (hq : q < (cn room Q.r n).p) : (SS Q room).msg q = (cn room Q.r (tP Q room q)).a := by
  have h := eff_eq Q room n (Nat.le_refl _)
  show ((SS Q room).eff (cn room Q.r n).a).getD q 0 = _
  rw [h, List.getD_eq_getElem?_getD, List.getElem?_map, tP, List.getD_eq_getElem?_getD]
  have : q < (pick (isP room Q.r) n).length := by rw [len_p]; exact hq
  rw [List.getElem?_eq_getElem this]
  rfl

/-- Each call is possible. -/
theorem possible (hr : 0 ≤ room) (c : Nat) (hc : c < n) :
    (evt room Q.r c = 1 → (stS (SS Q room) (TT Q room) room (cn room Q.r c).a (cn room Q.r c).b).2 = true) ∧
    (evt room Q.r c = 2 → (stT (SS Q room) (TT Q room) room (cn room Q.r c).a (cn room Q.r c).b).2 = true) := by
  obtain ⟨i1, i2, i3, i4, _⟩ := cn_inv room Q.r hr c
  have el : ((SS Q room).eff (cn room Q.r c).a).length = (cn room Q.r c).p := by rw [eff_eq Q room c (by omega), List.length_map, len_p]
  refine ⟨fun he => ?_, fun he => ?_⟩
  · have h0 := (ev_one Q room).1 he
    have ht := tS_at Q room hc h0
    have e1 : (SS Q room).kd (cn room Q.r c).a = 1 := by show 1 + Q.r (tS Q _) = _; rw [ht, h0]; rfl
    have e2 : (SS Q room).en (cn room Q.r c).a = 2 * (c : Int) + 2 := by show 2 * (tS Q _ : Int) + 2 = _; rw [ht]
    have e3 : (SS Q room).er (cn room Q.r c).a = if full room Q.r c then 5 else 0 := by show erI room Q.r (tS Q _) = _; rw [ht, erI, if_pos h0]
    rw [stS, el, got_eq Q room c (by omega), back_eq Q room c (by omega), e1, e2, e3]
    unfold doesI full
    grind
  · have ht := tT_at Q room hc he
    have e1 : (TT Q room).kd (cn room Q.r c).b = 1 + Q.r c := by show 1 + Q.r (tT Q room _) = _; rw [ht]
    have e2 : (TT Q room).en (cn room Q.r c).b = 2 * (c : Int) + 2 := by show 2 * (tT Q room _ : Int) + 2 = _; rw [ht]
    have e3 : (TT Q room).er (cn room Q.r c).b = erI room Q.r c := by show erI room Q.r (tT Q room _) = _; rw [ht]
    rw [stT, el, got_eq Q room c (by omega), back_eq Q room c (by omega), e1, e2, e3]
    by_cases h1 : Q.r c = 1
    · by_cases hg : (cn room Q.r c).g < (cn room Q.r c).p
      · have hgn : (cn room Q.r c).g < (cn room Q.r n).p := by
          have := pick_mono (isP room Q.r) (i := c) (j := n) (by omega)
          rw [len_p, len_p] at this
          omega
        obtain ⟨p1, p2⟩ := tP_is Q room _ hgn
        have hp := tS_at Q room (tP_lt Q room _ hgn) p1
        have w1 : Q.hasW room c := .inr ⟨h1, hg⟩
        have w2 : Q.hasW room (tP Q room (cn room Q.r c).g) := .inl p1
        have s1 : Q.src room c = tP Q room (cn room Q.r c).g := by unfold Asks.src; rw [if_neg (by omega)]; rfl
        have s2 : Q.src room (tP Q room (cn room Q.r c).g) = tP Q room (cn room Q.r c).g := by rw [Asks.src, if_pos p1]
        have hs : sameW ((SS Q room).m ((SS Q room).msg (cn room Q.r c).g)) ((SS Q room).x ((SS Q room).msg (cn room Q.r c).g)) ((TT Q room).m (cn room Q.r c).b) ((TT Q room).x (cn room Q.r c).b) = true := by
          rw [msg_eq Q room hgn]
          show sameW (Q.lm room (tS Q _)) (Q.x (Q.src room (tS Q _))) (Q.lm room (tT Q room _)) (Q.x (Q.src room (tT Q room _))) = true
          rw [ht, hp, s1, s2, Asks.lm, if_pos w2, Asks.lm, if_pos w1, s1, s2]
          exact sameW_iff.2 ⟨rfl, fun _ _ => rfl⟩
        rw [hs]
        unfold doesI erI
        grind
      · unfold doesI erI
        grind
    · unfold evt at he
      unfold doesI erI
      grind
end

end Go.Proofs.Ytophlodlencgiaa

namespace Go.Proofs.Ytophlodlencgiaa
open Go.V

theorem pick_inv (p : Nat → Bool) : ∀ n j, j < (pick p n).length → (pick p ((pick p n).getD j 0)).length = j
  | 0, j, h => by simp [pick] at h
  | n + 1, j, h => by
    simp only [pick] at h ⊢
    by_cases hp : p n = true
    · rw [if_pos hp] at h ⊢
      by_cases hj : j < (pick p n).length
      · rw [List.getD_eq_getElem?_getD, List.getElem?_append_left hj, ← List.getD_eq_getElem?_getD]
        exact pick_inv p n j hj
      · obtain rfl : j = (pick p n).length := by simp at h; omega
        simp
    · rw [if_neg hp] at h ⊢
      exact pick_inv p n j h

section
variable {n : Nat} {G : Nat → Nat → DV} (Q : Asks n G) (room : Int)

theorem found (hr : 0 ≤ room) : witO (SS Q room) (TT Q room) room = some (namesF (cn room Q.r n).a (fun c => (cn room Q.r c).a) (fun c => (cn room Q.r c).b) (evt room Q.r) n 0) := by
  have hm : May (SS Q room) (TT Q room) room := by
    refine ⟨hr, fun i hi => ⟨?_, ?_⟩, fun i hi => ⟨?_, ?_⟩⟩
    · show 1 + Q.r (tS Q i) = 1
      rw [tS_r Q room i hi]; rfl
    · show 2 * (tS Q i : Int) + 2 = 0 → _
      omega
    · show 1 + Q.r (tT Q room i) = 2 ∨ 1 + Q.r (tT Q room i) = 3
      have := tT_ev Q room i hi
      unfold evt at this
      grind
    · show 2 * (tT Q room i : Int) + 2 = 0 → _
      omega
  rw [witO, if_pos hm]
  exact (line Q room).found room (fun c hc => possible Q room hr c hc) n 0 rfl (Nat.zero_le _)

def nameI (c : Nat) : Nat := if evt room Q.r c = 1 then (cn room Q.r c).a else (cn room Q.r n).a + (cn room Q.r c).b
def tW (j : Nat) : Nat := (pick (isW room Q.r) n).getD j 0

theorem names_len (N : Nat) : ∀ d c, (namesF N (fun c => (cn room Q.r c).a) (fun c => (cn room Q.r c).b) (evt room Q.r) d c).length + ((cn room Q.r c).a + (cn room Q.r c).b) = (cn room Q.r (c + d)).a + (cn room Q.r (c + d)).b
  | 0, c => by simp [namesF]
  | d + 1, c => by
    have ih := names_len N d (c + 1)
    have e : c + 1 + d = c + (d + 1) := by omega
    rw [e, next_a, next_b] at ih
    rw [← ih, namesF, List.length_append]
    have := ev_one Q room (c := c)
    by_cases h1 : evt room Q.r c = 1
    · simp only [h1, this.1 h1]; simp; omega
    · by_cases h2 : evt room Q.r c = 2
      · simp only [h2, show ¬ Q.r c = 0 from fun h => h1 (this.2 h)]; simp; omega
      · simp only [h1, h2, show ¬ Q.r c = 0 from fun h => h1 (this.2 h)]; simp

theorem w_mono {c c' : Nat} (h : c ≤ c') : (cn room Q.r c).a + (cn room Q.r c).b ≤ (cn room Q.r c').a + (cn room Q.r c').b := by
  rw [← len_w, ← len_w]; exact pick_mono _ h

theorem names_get : ∀ d c c', c ≤ c' → c' < c + d → evt room Q.r c' ≠ 0 →
    (namesF (cn room Q.r n).a (fun c => (cn room Q.r c).a) (fun c => (cn room Q.r c).b) (evt room Q.r) d c).getD ((cn room Q.r c').a + (cn room Q.r c').b - ((cn room Q.r c).a + (cn room Q.r c).b)) 0 = nameI Q room c'
  | 0, c, c', h1, h2, _ => by omega
  | d + 1, c, c', h1, h2, h3 => by
    have he := ev_one Q room (c := c)
    have na := next_a room Q.r c
    have nb := next_b room Q.r c
    rw [namesF]
    by_cases hc : c' = c
    · subst hc
      rw [Nat.sub_self]
      by_cases h1 : evt room Q.r c' = 1
      · simp [h1, nameI]
      · have h2 : evt room Q.r c' = 2 := by unfold evt at h1 h3 ⊢; grind
        simp [h2, nameI]
    · have ih := names_get d (c + 1) c' (by omega) (by omega) h3
      have hm := w_mono Q room (c := c + 1) (c' := c') (by omega)
      rw [← ih]
      by_cases h1 : evt room Q.r c = 1
      · rw [if_pos h1, List.getD_eq_getElem?_getD, List.getD_eq_getElem?_getD]
        rw [if_pos (he.1 h1)] at na
        rw [h1] at nb
        simp only [show ¬ (1 : Nat) = 2 by omega, if_false] at nb
        rw [List.getElem?_append_right (by simp; omega)]
        congr 2
        simp; omega
      · rw [if_neg (fun h => h1 (he.2 h))] at na
        by_cases h2 : evt room Q.r c = 2
        · rw [if_neg h1, if_pos h2, List.getD_eq_getElem?_getD, List.getD_eq_getElem?_getD]
          rw [if_pos h2] at nb
          rw [List.getElem?_append_right (by simp; omega)]
          congr 2
          simp; omega
        · rw [if_neg h1, if_neg h2]
          rw [if_neg h2] at nb
          rw [List.nil_append, na, nb]
          simp only [Nat.add_zero]

theorem tW_lt (j : Nat) (hj : j < (cn room Q.r n).a + (cn room Q.r n).b) : tW Q room j < n := pick_get_lt _ _ _ (by rw [len_w]; exact hj)
theorem tW_ev (j : Nat) (hj : j < (cn room Q.r n).a + (cn room Q.r n).b) : evt room Q.r (tW Q room j) ≠ 0 := by
  have h' : isW room Q.r (tW Q room j) = true := pick_true _ _ _ (pick_get_mem _ _ _ (by rw [len_w]; exact hj))
  simpa [isW] using h'
theorem tW_inv (j : Nat) (hj : j < (cn room Q.r n).a + (cn room Q.r n).b) : (cn room Q.r (tW Q room j)).a + (cn room Q.r (tW Q room j)).b = j := by
  rw [← len_w]; exact pick_inv _ _ _ (by rw [len_w]; exact hj)
theorem tW_at {c : Nat} (hc : c < n) (h : evt room Q.r c ≠ 0) : tW Q room ((cn room Q.r c).a + (cn room Q.r c).b) = c := by
  rw [← len_w]; exact pick_next _ hc (by simpa [isW] using h)

/-- The order, by its places. -/
theorem names_at (j : Nat) (hj : j < (cn room Q.r n).a + (cn room Q.r n).b) :
    (namesF (cn room Q.r n).a (fun c => (cn room Q.r c).a) (fun c => (cn room Q.r c).b) (evt room Q.r) n 0).getD j 0 = nameI Q room (tW Q room j) := by
  have h := names_get Q room n 0 (tW Q room j) (Nat.zero_le _) (by have := tW_lt Q room j hj; omega) (tW_ev Q room j hj)
  rw [tW_inv Q room j hj] at h
  exact h
end

/-- One answer changed. -/
def Ents.flip {N : Nat} {G : Nat → Nat → DV} (S : Ents N G) (k : Nat) (v : Int) : Ents N (fun i f => if i = k ∧ f = 5 then .int .i64 v else G i f) where
  co := S.co
  pe := S.pe
  kd := S.kd
  be := S.be
  en := S.en
  er i := if i = k then v else S.er i
  m := S.m
  g := S.g
  x := S.x
  ha := S.ha
  h0 i hi := by rw [if_neg (by omega)]; exact S.h0 i hi
  h1 i hi := by rw [if_neg (by omega)]; exact S.h1 i hi
  h2 i hi := by rw [if_neg (by omega)]; exact S.h2 i hi
  h3 i hi := by rw [if_neg (by omega)]; exact S.h3 i hi
  h4 i hi := by rw [if_neg (by omega)]; exact S.h4 i hi
  h5 i hi := by
    by_cases h : i = k
    · rw [if_pos ⟨h, rfl⟩, if_pos h]
    · rw [if_neg (fun h' => h h'.1), if_neg h]; exact S.h5 i hi
  h6 i hi := by rw [if_neg (by omega)]; exact S.h6 i hi
  h7 i hi := by rw [if_neg (by omega)]; exact S.h7 i hi
  hx := S.hx

theorem Ents.flip_eff {N : Nat} {G : Nat → Nat → DV} (S : Ents N G) (k : Nat) (v : Int) : ∀ i, i ≤ k → (S.flip k v).eff i = S.eff i
  | 0, _ => rfl
  | i + 1, h => by
    have e : (S.flip k v).okE i = S.okE i := by
      rw [Bool.eq_iff_iff, okE_iff, okE_iff]
      show S.en i = 0 ∨ (if i = k then v else S.er i) = 0 ↔ _
      rw [if_neg (by omega)]
    rw [Ents.eff, Ents.eff, e, Ents.flip_eff S k v i (by omega)]

section
variable {n : Nat} {G : Nat → Nat → DV} (Q : Asks n G) (room : Int)

/-- With one answer changed there is no order. -/
theorem spoilt_none (hr : 0 ≤ room) (k : Nat) (hk : k < (cn room Q.r n).a) (v : Int) (hv : v = if (SS Q room).er k = 0 then 5 else 0) : witO ((SS Q room).flip k v) (TT Q room) room = none := by
  have hl : Line ((SS Q room).flip k v) (TT Q room) n (fun c => (cn room Q.r c).a) (fun c => (cn room Q.r c).b) (evt room Q.r) := by
    have h := line Q room
    exact ⟨h.a0, h.b0, h.an, h.bn, h.no, h.snd, h.tkn, h.kind⟩
  unfold witO
  split
  · have h0 := tS_r Q room k hk
    have hc := tS_lt Q room k hk
    have hka : (cn room Q.r (tS Q k)).a = k := by
      rw [← len_a]; exact pick_inv _ _ _ (by rw [len_a room]; exact hk)
    refine hl.none room (c0 := tS Q k) hc ((ev_one Q room).2 h0) ?_ (tS Q k) 0 rfl (Nat.zero_le _)
    obtain ⟨i1, i2, i3, i4, _⟩ := cn_inv room Q.r hr (tS Q k)
    have el : (((SS Q room).flip k v).eff (cn room Q.r (tS Q k)).a).length = (cn room Q.r (tS Q k)).p := by
      rw [Ents.flip_eff _ _ _ _ (by omega), eff_eq Q room _ (by omega), List.length_map, len_p]
    have e1 : ((SS Q room).flip k v).kd (cn room Q.r (tS Q k)).a = 1 := by show 1 + Q.r (tS Q _) = _; rw [hka, h0]; rfl
    have e2 : ((SS Q room).flip k v).en (cn room Q.r (tS Q k)).a = 2 * (tS Q k : Int) + 2 := by show 2 * (tS Q _ : Int) + 2 = _; rw [hka]
    have e3 : ((SS Q room).flip k v).er (cn room Q.r (tS Q k)).a = v := by show (if _ = k then v else _) = v; rw [if_pos hka]
    have e4 : (SS Q room).er k = if full room Q.r (tS Q k) then 5 else 0 := by show erI room Q.r (tS Q k) = _; rw [erI, if_pos h0]
    rw [e4] at hv
    show (stS ((SS Q room).flip k v) (TT Q room) room (cn room Q.r (tS Q k)).a (cn room Q.r (tS Q k)).b).2 = false
    rw [stS, el, got_eq Q room _ (by omega), back_eq Q room _ (by omega), e1, e2, e3]
    unfold doesI
    unfold full at hv
    grind
  · rfl
end

end Go.Proofs.Ytophlodlencgiaa

section
namespace Go.Proofs.Ytophlodlencgiaa
open Go.V
set_option linter.unusedVariables false
set_option linter.unusedSimpArgs false
set_option maxRecDepth 100000
set_option maxHeartbeats 8000000

theorem wu64_in {n : Int} (h : 0 ≤ n ∧ n < 18446744073709551616) : IntKind.u64.wrap n = n := by
  simp only [IntKind.wrap, IntKind.signed, IntKind.bits]
  simp; omega

theorem ok_spoilt {N : Nat} {GS : Nat → Nat → DV} (S : Ents N GS) {K : Nat} {GT : Nat → Nat → DV} (T : Ents K GT) (room wh : Int) (h0 : 0 ≤ wh) (h1 : wh < 18446744073709551616) (hN : N ≤ 40) (hK : K ≤ 40)
    (hs : ∀ k, k < N → witO (S.flip k (if S.er k = 0 then 5 else 0)) T room = none) :
    CallOK (O := Ob) PR n_law21_spoilt [.dv (.seq N 8 GS), .dv (.seq K 8 GT), .dv (.int .i64 room), .dv (.int .u64 wh)] [] fun r m => r = .dv (.bool true) ∧ m = [] := by
  obtain ⟨w, hw, hwN⟩ : ∃ w : Nat, (0 < N → wh.tmod (N : Int) = (w : Int)) ∧ (0 < N → w < N) := by
    refine ⟨(wh % (N : Int)).toNat, fun h => ?_, fun h => ?_⟩
    · rw [Int.tmod_eq_emod_of_nonneg h0]
      have := Int.emod_nonneg wh (show (N : Int) ≠ 0 by omega)
      omega
    · have := Int.emod_lt_of_pos wh (show (0 : Int) < N by omega)
      have := Int.emod_nonneg wh (show (N : Int) ≠ 0 by omega)
      omega
  obtain ⟨GF, hGF⟩ : ∃ F : Int → Nat → Nat → DV, ∀ v i f, F v i f = if i = w ∧ f = 5 then .int .i64 v else GS i f := ⟨_, fun _ _ _ => rfl⟩
  have hfit : ∀ v, w < N → v = (if S.er w = 0 then 5 else 0) → CallOK (O := Ob) PR n_order_Fits [.dv (.seq N 8 (GF v)), .dv (.seq K 8 GT), .dv (.int .i64 room)] [] fun r m => r = .dv (.bool false) ∧ m = [] := by
    intro v hwn hv
    have e : GF v = fun i f => if i = w ∧ f = 5 then .int .i64 v else GS i f := by funext i f; exact hGF v i f
    rw [e]
    refine CallOK.ent (ok_Fits (S.flip w v) T room (by omega)) ?_
    rintro r m ⟨⟨b, hb, rfl⟩, hm⟩
    rw [hv, hs w hwn] at hb
    exact ⟨_, m, Ent.refl _ _, by rw [hb]; rfl, hm⟩
  refine fn_walkv mixed fn_law21_spoilt (Ent.refl _ _) fun bin cmp un conv bnot beq band sel isel ofN toN inb nz nneg lt le room' slb add sub sbin scmp slen sget ssub addk pc pb pi pf ps mkok min_ ig aeq P hP hA hF Q hQ => ?_
  have hupd : ∀ v x f, x < N → f < 8 → updRow (appAt ⟨bin, cmp, un, conv, bnot, beq, band, sel, isel, ofN, toN, inb, nz, nneg, lt, le, room', slb, add, sub, sbin, scmp, slen, sget, ssub, addk, pc, pb, pi, pf, ps, mkok, min_, ig, aeq⟩ 0 (listAt 8 []) (dvAt GS)) w 5 [.dv (.int .i64 v)] x f = .dv (GF v x f) := by
    intro v x f hx hf
    have e : appAt ⟨bin, cmp, un, conv, bnot, beq, band, sel, isel, ofN, toN, inb, nz, nneg, lt, le, room', slb, add, sub, sbin, scmp, slen, sget, ssub, addk, pc, pb, pi, pf, ps, mkok, min_, ig, aeq⟩ 0 (listAt 8 []) (dvAt GS) x f = .dv (GS x f) := by simp only [appAt, dvAt, hF, Nat.not_lt_zero, if_false, Nat.sub_zero]
    rw [hGF]
    unfold updRow
    by_cases hx : x = w
    · rw [if_pos hx]
      by_cases h5 : f < 5
      · rw [if_pos h5, e, if_neg (by omega)]
      · rw [if_neg h5]
        by_cases h6 : f = 5
        · subst h6; rw [if_pos ⟨hx, rfl⟩]; rfl
        · rw [if_neg (by omega)]
          rcases (by omega : f - 5 = 1 ∨ f - 5 = 2) with e1 | e1 <;> rw [e1] <;> exact e
    · rw [if_neg hx, if_neg (fun h => hx h.1)]; exact e
  have hcN : conv .u64 (ofN N) = (N : Int) := by simp only [hF]; exact wu64_in (by omega)
  have hconv : 0 < N → conv .i64 (bin .rem .u64 wh (conv .u64 (ofN N))) = (w : Int) := by
    intro h
    have hlt := hwN h
    rw [hcN]
    simp only [hF]
    rw [hw h, w64_in (by omega)]
  have hnz : 0 < N → nz (conv .u64 (ofN N)) := by
    intro h
    rw [hcN]
    simp only [hF]
    omega
  cbv
  intro hmx
  cbv
  by_cases h00 : N = 0
  · cbv
    repeat' first
      | (refine Chk.mk trivial ?_; cbv)
      | (refine bc_true (by first | assumption | (simp (disch := omega) only [hF, natc, Int.ofNat_eq_natCast, w64_in, decide_eq_true_eq, decide_eq_false_iff_not, Int.toNat_natCast, Bool.not_eq_true', Bool.not_eq_false', not_true_eq_false, not_false_eq_true, Int.not_lt, Int.not_le, Bool.and_eq_true, Bool.or_eq_true, Int.ofNat_lt, Int.ofNat_le, Int.natCast_nonneg, Int.toNat_zero, Int.toNat_one, Classical.not_not, beq_self_eq_true, true_and, and_true]; first | done | assumption | omega | (simp only [natc] at *; omega))) ?_; cbv)
      | (refine bc_false (by first | assumption | (simp (disch := omega) only [hF, natc, Int.ofNat_eq_natCast, w64_in, decide_eq_true_eq, decide_eq_false_iff_not, Int.toNat_natCast, Bool.not_eq_true', Bool.not_eq_false', not_true_eq_false, not_false_eq_true, Int.not_lt, Int.not_le, Bool.and_eq_true, Bool.or_eq_true, Int.ofNat_lt, Int.ofNat_le, Int.natCast_nonneg, Int.toNat_zero, Int.toNat_one, Classical.not_not, beq_self_eq_true, true_and, and_true]; first | done | assumption | omega | (simp only [natc] at *; omega))) ?_; cbv)
      | (refine bc_split (fun h => ?_) (fun h => ?_) <;> (try simp (disch := omega) only [hF, natc, Int.ofNat_eq_natCast, w64_in, decide_eq_true_eq, decide_eq_false_iff_not, Int.toNat_natCast, Bool.not_eq_true', Bool.not_eq_false', not_true_eq_false, not_false_eq_true, Int.not_lt, Int.not_le, Bool.and_eq_true, Bool.or_eq_true, Int.ofNat_lt, Int.ofNat_le, Int.natCast_nonneg, Int.toNat_zero, Int.toNat_one, Classical.not_not, beq_self_eq_true, true_and, and_true] at h) <;> cbv)
      | (refine IdxVC.mk (by simp (disch := omega) only [hF, natc, Int.ofNat_eq_natCast, w64_in, decide_eq_true_eq, decide_eq_false_iff_not, Int.toNat_natCast, Bool.not_eq_true', Bool.not_eq_false', not_true_eq_false, not_false_eq_true, Int.not_lt, Int.not_le, Bool.and_eq_true, Bool.or_eq_true, Int.ofNat_lt, Int.ofNat_le, Int.natCast_nonneg, Int.toNat_zero, Int.toNat_one, Classical.not_not, beq_self_eq_true, true_and, and_true]; first | done | omega | (simp only [natc] at *; omega)) (fun kx hk hk2 => ?_); simp (disch := omega) only [hF, natc, Int.ofNat_eq_natCast, w64_in, decide_eq_true_eq, decide_eq_false_iff_not, Int.toNat_natCast, Bool.not_eq_true', Bool.not_eq_false', not_true_eq_false, not_false_eq_true, Int.not_lt, Int.not_le, Bool.and_eq_true, Bool.or_eq_true, Int.ofNat_lt, Int.ofNat_le, Int.natCast_nonneg, Int.toNat_zero, Int.toNat_one, Classical.not_not, beq_self_eq_true, true_and, and_true] at hk; (try obtain rfl : kx = 0 := hk); cbv)
      | (refine Chk.mk (by simp (disch := omega) only [maxN, hF, natc, Int.ofNat_eq_natCast, w64_in, decide_eq_true_eq, decide_eq_false_iff_not, Int.toNat_natCast, Bool.not_eq_true', Bool.not_eq_false', not_true_eq_false, not_false_eq_true, Int.not_lt, Int.not_le, Bool.and_eq_true, Bool.or_eq_true, Int.ofNat_lt, Int.ofNat_le, Int.natCast_nonneg, Int.toNat_zero, Int.toNat_one, Classical.not_not, beq_self_eq_true, true_and, and_true]; first | done | assumption | omega | (simp only [natc] at *; omega)) ?_; cbv)
      | (intro (hmx : _ ≤ maxN); replace hmx : _ ≤ 17592186044416 := hmx; cbv)
      | (intro _; cbv)
    subst hQ; exact leaf_data rfl rfl ⟨rfl, rfl⟩
  have hpos : 0 < N := by omega
  have hnz := hnz hpos
  have hconv := hconv hpos
  have hwN := hwN hpos
  have hg5 : GS (sub w 0) 5 = .int .i64 (S.er w) := by
    have e : sub w 0 = w := by simp only [hF, Nat.sub_zero]
    rw [e]; exact S.h5 w hwN
  cbv
  repeat' first
    | (refine Chk.mk trivial ?_; cbv)
    | (refine bc_true (by first | assumption | (simp (disch := omega) only [hF, natc, Int.ofNat_eq_natCast, w64_in, decide_eq_true_eq, decide_eq_false_iff_not, Int.toNat_natCast, Bool.not_eq_true', Bool.not_eq_false', not_true_eq_false, not_false_eq_true, Int.not_lt, Int.not_le, Bool.and_eq_true, Bool.or_eq_true, Int.ofNat_lt, Int.ofNat_le, Int.natCast_nonneg, Int.toNat_zero, Int.toNat_one, Classical.not_not, beq_self_eq_true, true_and, and_true]; first | done | assumption | omega | (simp only [natc] at *; omega))) ?_; cbv)
    | (refine bc_false (by first | assumption | (simp (disch := omega) only [hF, natc, Int.ofNat_eq_natCast, w64_in, decide_eq_true_eq, decide_eq_false_iff_not, Int.toNat_natCast, Bool.not_eq_true', Bool.not_eq_false', not_true_eq_false, not_false_eq_true, Int.not_lt, Int.not_le, Bool.and_eq_true, Bool.or_eq_true, Int.ofNat_lt, Int.ofNat_le, Int.natCast_nonneg, Int.toNat_zero, Int.toNat_one, Classical.not_not, beq_self_eq_true, true_and, and_true]; first | done | assumption | omega | (simp only [natc] at *; omega))) ?_; cbv)
    | (refine bc_split (fun h => ?_) (fun h => ?_) <;> (try simp (disch := omega) only [hF, natc, Int.ofNat_eq_natCast, w64_in, decide_eq_true_eq, decide_eq_false_iff_not, Int.toNat_natCast, Bool.not_eq_true', Bool.not_eq_false', not_true_eq_false, not_false_eq_true, Int.not_lt, Int.not_le, Bool.and_eq_true, Bool.or_eq_true, Int.ofNat_lt, Int.ofNat_le, Int.natCast_nonneg, Int.toNat_zero, Int.toNat_one, Classical.not_not, beq_self_eq_true, true_and, and_true] at h) <;> cbv)
    | (refine IdxVC.mk (by simp (disch := omega) only [hF, natc, Int.ofNat_eq_natCast, w64_in, decide_eq_true_eq, decide_eq_false_iff_not, Int.toNat_natCast, Bool.not_eq_true', Bool.not_eq_false', not_true_eq_false, not_false_eq_true, Int.not_lt, Int.not_le, Bool.and_eq_true, Bool.or_eq_true, Int.ofNat_lt, Int.ofNat_le, Int.natCast_nonneg, Int.toNat_zero, Int.toNat_one, Classical.not_not, beq_self_eq_true, true_and, and_true]; first | done | omega | (simp only [natc] at *; omega)) (fun kx hk hk2 => ?_); simp (disch := omega) only [hF, natc, Int.ofNat_eq_natCast, w64_in, decide_eq_true_eq, decide_eq_false_iff_not, Int.toNat_natCast, Bool.not_eq_true', Bool.not_eq_false', not_true_eq_false, not_false_eq_true, Int.not_lt, Int.not_le, Bool.and_eq_true, Bool.or_eq_true, Int.ofNat_lt, Int.ofNat_le, Int.natCast_nonneg, Int.toNat_zero, Int.toNat_one, Classical.not_not, beq_self_eq_true, true_and, and_true] at hk; (try obtain rfl : kx = 0 := hk); (try obtain rfl : w = kx := hk.symm); cbv)
    | (rw [hg5] <;> first | assumption | cbv)
    | (refine Chk.mk (by simp (disch := omega) only [maxN, hF, natc, Int.ofNat_eq_natCast, w64_in, decide_eq_true_eq, decide_eq_false_iff_not, Int.toNat_natCast, Bool.not_eq_true', Bool.not_eq_false', not_true_eq_false, not_false_eq_true, Int.not_lt, Int.not_le, Bool.and_eq_true, Bool.or_eq_true, Int.ofNat_lt, Int.ofNat_le, Int.natCast_nonneg, Int.toNat_zero, Int.toNat_one, Classical.not_not, beq_self_eq_true, true_and, and_true]; first | done | assumption | omega | (simp only [natc] at *; omega)) ?_; cbv)
    | (intro (hmx : _ ≤ maxN); replace hmx : _ ≤ 17592186044416 := hmx; cbv)
    | (intro _; cbv)
    | ((refine Chk.mk hnz ?_); cbv)
    | ((rw [hconv]); cbv)
  · refine call_frzs [(1, N, 8, GF 5)] ⟨⟨by simp only [hF]; omega, rfl, fun x f hx hf => hupd 5 x f hx hf⟩, trivial⟩ ?_
    refine call_pure hP code_order_Fits (hfit 5 hwN (by rw [if_pos (by assumption)])) ⟨rfl, rfl, rfl, trivial⟩ ?_
    rintro _ rfl
    have hb : bnot false = true := by simp only [hF, Bool.not_false]
    cbv
    subst hQ; exact leaf_data rfl rfl ⟨by show SV.dv (.bool (bnot false)) = _; rw [hb], rfl⟩
  · refine call_frzs [(1, N, 8, GF 0)] ⟨⟨by simp only [hF]; omega, rfl, fun x f hx hf => hupd 0 x f hx hf⟩, trivial⟩ ?_
    refine call_pure hP code_order_Fits (hfit 0 hwN (by rw [if_neg (by assumption)])) ⟨rfl, rfl, rfl, trivial⟩ ?_
    rintro _ rfl
    have hb : bnot false = true := by simp only [hF, Bool.not_false]
    cbv
    subst hQ; exact leaf_data rfl rfl ⟨by show SV.dv (.bool (bnot false)) = _; rw [hb], rfl⟩

end Go.Proofs.Ytophlodlencgiaa

end
