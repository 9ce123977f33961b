/-
  Plain: entries of diaries; which may stand in one; those of a channel.
-/
import Derived.Test.YtophlodlencgiaaDoorHIr
import Derived.Test.YtophlodlencgiaaDoorVchD
namespace Go.Proofs.YtophlodlencgiaaDoor
open Go.V

/-- A list's entries. -/
structure Ents (n : Nat) (G : Nat → Nat → DV) where
  co : Nat → Int
  pe : Nat → Int
  kd : Nat → Int
  be : Nat → Int
  en : Nat → Int
  er : Nat → Int
  m : Nat → Nat
  g : Nat → Nat → Nat → DV
  x : Nat → Nat → Int
  ha : Nat → Int
  h0 : ∀ i, i < n → G i 0 = .int .i64 (co i)
  h1 : ∀ i, i < n → G i 1 = .int .i64 (pe i)
  h2 : ∀ i, i < n → G i 2 = .int .i64 (kd i)
  h3 : ∀ i, i < n → G i 3 = .int .i64 (be i)
  h4 : ∀ i, i < n → G i 4 = .int .i64 (en i)
  h5 : ∀ i, i < n → G i 5 = .int .i64 (er i)
  h6 : ∀ i, i < n → G i 6 = .seq (m i) 1 (g i)
  h7 : ∀ i, i < n → G i 7 = .int .i64 (ha i)
  hx : ∀ i, i < n → ∀ j, j < m i → g i j 0 = .int .i64 (x i j)

variable {n : Nat} {G : Nat → Nat → DV}

/-- An entry's cells. -/
def Ents.row (S : Ents n G) (i : Nat) : List SV :=
  [.dv (.int .i64 (S.co i)), .dv (.int .i64 (S.pe i)), .dv (.int .i64 (S.kd i)), .dv (.int .i64 (S.be i)), .dv (.int .i64 (S.en i)), .dv (.int .i64 (S.er i)), .dv (.seq (S.m i) 1 (S.g i)), .dv (.int .i64 (S.ha i))]

/-- The numbers below one of which something is true. -/
def pick (p : Nat → Bool) : Nat → List Nat
  | 0 => []
  | i + 1 => if p i then pick p i ++ [i] else pick p i

theorem pick_len (p : Nat → Bool) : ∀ i, (pick p i).length ≤ i
  | 0 => Nat.le_refl 0
  | i + 1 => by
    have := pick_len p i
    simp only [pick]
    split
    · simp; omega
    · omega

theorem pick_lt (p : Nat → Bool) : ∀ i j, j ∈ pick p i → j < i
  | 0, _, h => by simp [pick] at h
  | i + 1, j, h => by
    simp only [pick] at h
    split at h
    · rcases List.mem_append.1 h with h | h
      · have := pick_lt p i j h; omega
      · simp at h; omega
    · have := pick_lt p i j h; omega

theorem pick_pre (p : Nat → Bool) (i : Nat) : ∀ d, ∃ l, pick p (i + d) = pick p i ++ l
  | 0 => ⟨[], by simp⟩
  | d + 1 => by
    obtain ⟨l, hl⟩ := pick_pre p i d
    rw [← Nat.add_assoc, pick, hl]
    split
    · exact ⟨l ++ [i + d], by simp⟩
    · exact ⟨l, rfl⟩

theorem pick_at (p : Nat → Bool) {i i' j : Nat} (h : i ≤ i') (hj : j < (pick p i).length) : (pick p i').getD j 0 = (pick p i).getD j 0 := by
  obtain ⟨l, hl⟩ := pick_pre p i (i' - i)
  rw [Nat.add_sub_cancel' h] at hl
  rw [hl, List.getD_eq_getElem?_getD, List.getElem?_append_left hj, ← List.getD_eq_getElem?_getD]

theorem pick_next (p : Nat → Bool) {i i' : Nat} (h : i < i') (hp : p i = true) : (pick p i').getD (pick p i).length 0 = i := by
  have e : pick p (i + 1) = pick p i ++ [i] := by rw [pick, if_pos hp]
  rw [pick_at p (i := i + 1) h (by rw [e]; simp), e]
  simp

theorem pick_all (p : Nat → Bool) : ∀ i, (∀ j, j < i → p j = true) → (pick p i).length = i
  | 0, _ => rfl
  | i + 1, h => by rw [pick, if_pos (h i (by omega))]; simp [pick_all p i fun j hj => h j (by omega)]

theorem pick_all_at (p : Nat → Bool) {i i' j : Nat} (hi : i ≤ i') (h : ∀ j, j < i → p j = true) (hj : j < i) : (pick p i').getD j 0 = j := by
  have e := pick_all p j fun x hx => h x (by omega)
  have := pick_next p (i := j) (i' := i') (by omega) (h j hj)
  rwa [e] at this

theorem pick_get_mem (p : Nat → Bool) (n i : Nat) (h : i < (pick p n).length) : (pick p n).getD i 0 ∈ pick p n := by
  rw [List.getD_eq_getElem?_getD, List.getElem?_eq_getElem h]
  exact List.getElem_mem h
theorem pick_get_lt (p : Nat → Bool) (n i : Nat) (h : i < (pick p n).length) : (pick p n).getD i 0 < n := pick_lt p n _ (pick_get_mem p n i h)
theorem pick_true (p : Nat → Bool) : ∀ n i, i ∈ pick p n → p i = true
  | 0, i, h => by simp [pick] at h
  | n + 1, i, h => by
    simp only [pick] at h
    split at h
    · rcases List.mem_append.1 h with h | h
      · exact pick_true p n i h
      · simp at h; subst h; assumption
    · exact pick_true p n i h
theorem pick_mono (p : Nat → Bool) {i j : Nat} (h : i ≤ j) : (pick p i).length ≤ (pick p j).length := by
  obtain ⟨l, hl⟩ := pick_pre p i (j - i)
  rw [Nat.add_sub_cancel' h] at hl
  rw [hl]; simp

section
variable {n : Nat} {G : Nat → Nat → DV}

theorem Ents.cell (S : Ents n G) {i f : Nat} (hi : i < n) (hf : f < 8) (v : Nat → SV) (h0 : v 0 = .dv (.int .i64 (S.co i))) (h1 : v 1 = .dv (.int .i64 (S.pe i))) (h2 : v 2 = .dv (.int .i64 (S.kd i))) (h3 : v 3 = .dv (.int .i64 (S.be i))) (h4 : v 4 = .dv (.int .i64 (S.en i))) (h5 : v 5 = .dv (.int .i64 (S.er i)))
    (h6 : v 6 = .dv (.seq (S.m i) 1 (S.g i))) (h7 : v 7 = .dv (.int .i64 (S.ha i))) : v f = .dv (G i f) := by
  rcases (by omega : f = 0 ∨ f = 1 ∨ f = 2 ∨ f = 3 ∨ f = 4 ∨ f = 5 ∨ f = 6 ∨ f = 7) with rfl | rfl | rfl | rfl | rfl | rfl | rfl | rfl
  · rw [h0, S.h0 i hi]
  · rw [h1, S.h1 i hi]
  · rw [h2, S.h2 i hi]
  · rw [h3, S.h3 i hi]
  · rw [h4, S.h4 i hi]
  · rw [h5, S.h5 i hi]
  · rw [h6, S.h6 i hi]
  · rw [h7, S.h7 i hi]

/-- The entries of which something is true. -/
def Gp (G : Nat → Nat → DV) (p : Nat → Bool) (n : Nat) : Nat → Nat → DV := fun j f => G ((pick p n).getD j 0) f

def Ents.sub (S : Ents n G) (p : Nat → Bool) : Ents (pick p n).length (Gp G p n) where
  co i := S.co ((pick p n).getD i 0)
  pe i := S.pe ((pick p n).getD i 0)
  kd i := S.kd ((pick p n).getD i 0)
  be i := S.be ((pick p n).getD i 0)
  en i := S.en ((pick p n).getD i 0)
  er i := S.er ((pick p n).getD i 0)
  m i := S.m ((pick p n).getD i 0)
  g i := S.g ((pick p n).getD i 0)
  x i := S.x ((pick p n).getD i 0)
  ha i := S.ha ((pick p n).getD i 0)
  h0 i hi := S.h0 _ (pick_get_lt p n i hi)
  h1 i hi := S.h1 _ (pick_get_lt p n i hi)
  h2 i hi := S.h2 _ (pick_get_lt p n i hi)
  h3 i hi := S.h3 _ (pick_get_lt p n i hi)
  h4 i hi := S.h4 _ (pick_get_lt p n i hi)
  h5 i hi := S.h5 _ (pick_get_lt p n i hi)
  h6 i hi := S.h6 _ (pick_get_lt p n i hi)
  h7 i hi := S.h7 _ (pick_get_lt p n i hi)
  hx i hi := S.hx _ (pick_get_lt p n i hi)

/-- May an entry stand in a diary? -/
def okH (co pe kd be en er : Int) (m : Nat) : Prop := (0 ≤ co ∧ co ≤ 7) ∧ (0 ≤ pe ∧ pe ≤ 7) ∧ ¬ co = pe ∧ (1 ≤ kd ∧ kd ≤ 3) ∧ 1 ≤ be ∧ m ≤ 8 ∧ ¬ (en = 0 ∧ ¬ er = 0) ∧ ¬ (¬ en = 0 ∧ en < be)
def okW (m : Nat) (x : Nat → Int) : Prop := ∀ j, j < m → 0 ≤ x j ∧ x j ≤ 65535

def Ents.ok (S : Ents n G) (i : Nat) : Prop := okH (S.co i) (S.pe i) (S.kd i) (S.be i) (S.en i) (S.er i) (S.m i) ∧ okW (S.m i) (S.x i)

/-- Is a diary right? -/
def Ents.right (S : Ents n G) : Prop := ∀ i, i < n → S.ok i ∧ ∀ k, k < i → S.co k = S.co i → S.be k < S.be i ∧ (S.en k ≠ 0 → S.en k < S.be i)

/-- When a core's last entry ended. -/
def Ents.last (S : Ents n G) : Nat → Nat → Int
  | 0, _ => 0
  | i + 1, c => if S.co i = (c : Int) then max (S.be i) (S.en i) else S.last i c

theorem Ents.last_le (S : Ents n G) {b : Int} : ∀ (i c : Nat), (∀ k, k < i → S.co k = (c : Int) → S.be k < b ∧ (S.en k ≠ 0 → S.en k < b)) → 1 ≤ b → S.last i c < b
  | 0, c, _, h => by simp only [last]; omega
  | i + 1, c, h, hb => by
    simp only [last]
    split
    · rename_i hc
      have := h i (Nat.lt_succ_self i) hc
      rcases this with ⟨h1, h2⟩
      by_cases he : S.en i = 0
      · omega
      · have := h2 he; omega
    · exact Ents.last_le S i c (fun k hk => h k (by omega)) hb

theorem Ents.last_ge (S : Ents n G) {b : Int} : ∀ (i c : Nat), (∀ k, k < i → S.ok k ∧ S.last k (S.co k).toNat < S.be k) → S.last i c < b → ∀ k, k < i → S.co k = (c : Int) → S.be k < b ∧ (S.en k ≠ 0 → S.en k < b)
  | 0, _, _, _, k, hk, _ => by omega
  | i + 1, c, hp, hl, k, hk, hc => by
    simp only [last] at hl
    by_cases hki : k = i
    · subst hki
      rw [if_pos hc] at hl
      omega
    · split at hl
      · rename_i hci
        have h1 := (hp i (Nat.lt_succ_self i)).2
        have e : (S.co i).toNat = c := by omega
        rw [e] at h1
        have := Ents.last_ge S i c (fun k hk => hp k (by omega)) h1 k (by omega) hc
        obtain ⟨h2, h3⟩ := this
        refine ⟨by omega, fun he => ?_⟩
        have := h3 he
        omega
      · exact Ents.last_ge S i c (fun k hk => hp k (by omega)) hl k (by omega) hc

theorem Ents.right_iff (S : Ents n G) : S.right ↔ ∀ k, k < n → S.ok k ∧ S.last k (S.co k).toNat < S.be k := by
  constructor
  · intro h k hk
    obtain ⟨h1, h2⟩ := h k hk
    have h0 := h1.1
    unfold okH at h0
    refine ⟨h1, S.last_le k _ (fun j hj hc => h2 j hj (by omega)) (by omega)⟩
  · intro h i hi
    obtain ⟨h1, h2⟩ := h i hi
    have h0 := h1.1
    unfold okH at h0
    exact ⟨h1, fun k hk hc => S.last_ge i _ (fun k hk => h k (by omega)) h2 k hk (by omega)⟩
end

end Go.Proofs.YtophlodlencgiaaDoor
