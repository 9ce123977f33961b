/-
  The conditions suffice: stores, and new blocks.
-/
import Derived.Test.YtiaceoomiflgcaaVcgG
namespace Go.V
variable {O : Type} [Objs O]

/-- A row of cells with some written from a place on. -/
def putA (cs : Array Value) (o : Nat) : List Value → Array Value
  | [] => cs
  | v :: r => putA (cs.setIfInBounds o v) (o + 1) r

theorem putA_size : ∀ (vs : List Value) (cs : Array Value) (o : Nat), (putA cs o vs).size = cs.size
  | [], _, _ => rfl
  | v :: r, cs, o => by simp [putA, putA_size r]

theorem putA_get : ∀ (vs : List Value) (cs : Array Value) (o k : Nat), (k < o ∨ o + vs.length ≤ k) → (putA cs o vs)[k]? = cs[k]?
  | [], _, _, _, _ => rfl
  | v :: r, cs, o, k, h => by
    simp only [putA, List.length_cons] at h ⊢
    rw [putA_get r _ _ _ (by omega), Array.getElem?_setIfInBounds_ne (by omega)]

theorem putA_at : ∀ (vs : List Value) (cs : Array Value) (o k : Nat) (v : Value), o + vs.length ≤ cs.size → vs[k]? = some v → (putA cs o vs)[o + k]? = some v
  | [], _, _, _, _, _, h => by simp at h
  | x :: r, cs, o, 0, v, hs, h => by
    simp only [List.getElem?_cons_zero, Option.some.injEq] at h
    subst h
    simp only [putA, List.length_cons] at hs ⊢
    rw [putA_get _ _ _ _ (.inl (by omega))]
    simp [show o < cs.size by omega]
  | x :: r, cs, o, k + 1, v, hs, h => by
    simp only [List.getElem?_cons_succ] at h
    simp only [putA, List.length_cons] at hs ⊢
    have := putA_at r (cs.setIfInBounds o x) (o + 1) k v (by simp; omega) h
    rw [show o + (k + 1) = o + 1 + k by omega]
    exact this

/-- The world with a block of cells as it is now. -/
def wset (w : World) (b : Nat) (o : Obj) : World := { w with heap := w.heap.setIfInBounds b o }

theorem wset_ne {w : World} {b k : Nat} {o : Obj} (h : k ≠ b) : (wset w b o).heap[k]? = w.heap[k]? := by
  simp [wset, Array.getElem?_setIfInBounds_ne (Ne.symm h)]

theorem wset_eq {w : World} {b : Nat} {o : Obj} (h : b < w.heap.size) : (wset w b o).heap[b]? = some o := by
  simp [wset, h]

theorem lt_of_get {w : World} {b : Nat} {o : Obj} (h : w.heap[b]? = some o) : b < w.heap.size := by
  rcases Nat.lt_or_ge b w.heap.size with h' | h'
  · exact h'
  · rw [Array.getElem?_eq_none h'] at h; cases h

theorem setCell_wset {w : World} {b o : Nat} {cs : Array Value} {T : TypeId} {fz : Nat × Nat} {v : Value} (h : w.heap[b]? = some (.cells cs T fz)) :
    w.setCell ⟨b, o, none⟩ v = wset w b (.cells (cs.setIfInBounds o v) T fz) := by
  have hb := lt_of_get h
  unfold World.setCell wset
  congr 1
  apply Array.ext_getElem?
  intro k
  rw [Array.getElem?_modify]
  by_cases hk : b = k
  · subst hk
    have h' : w.heap[b] = .cells cs T fz := by simpa [hb] using h
    simp [hb, h']
  · rw [if_neg hk, Array.getElem?_setIfInBounds_ne hk]

theorem wset_wset {w : World} {b : Nat} {o o' : Obj} : wset (wset w b o) b o' = wset w b o' := by
  simp [wset, Array.setIfInBounds_setIfInBounds]

theorem wset_same {w : World} {b : Nat} {o : Obj} (h : w.heap[b]? = some o) : wset w b o = w := by
  have : w.heap.setIfInBounds b o = w.heap := by
    apply Array.ext_getElem?
    intro k
    by_cases hk : b = k
    · subst hk
      have h' : w.heap[b]'(lt_of_get h) = o := by simpa [lt_of_get h] using h
      simp [lt_of_get h, h']
    · rw [Array.getElem?_setIfInBounds_ne hk]
  unfold wset
  rw [this]

theorem run_storeCells {P : Program} {b o : Nat} {T : TypeId} : ∀ (vs : List Value) (i : Nat) (w : World) (cs : Array Value), w.heap[b]? = some (.cells cs T (0, 0)) → o + i + vs.length ≤ cs.size →
    (∀ v ∈ vs, v.oneCell' = true) → (storeCells ⟨b, o, none⟩ vs i).run P w = .ok () (wset w b (.cells (putA cs (o + i) vs) T (0, 0)))
  | [], i, w, cs, h, _, _ => by
    simp only [storeCells, Sem.run_pure, putA, wset_same h]
  | v :: r, i, w, cs, h, hs, hv => by
    simp only [List.length_cons] at hs
    have hc : w.cell? ⟨b, o + i, none⟩ = some cs[o + i] := by rw [cell_of h]; simp [show o + i < cs.size by omega]
    have hf : w.frozen? ⟨b, o + i, none⟩ = false := by simp [World.frozen?, h]
    have h1 := setCell_wset (o := o + i) (v := v) h
    have h2 : (wset w b (.cells (cs.setIfInBounds (o + i) v) T (0, 0))).heap[b]? = some (.cells (cs.setIfInBounds (o + i) v) T (0, 0)) := wset_eq (lt_of_get h)
    have ih := run_storeCells (P := P) (o := o) r (i + 1) _ _ h2 (by simp; omega) fun x hx => hv x (by simp [hx])
    simp only [storeCells, Sem.run_bind, add_addr, run_store P w _ v .plain (hv v (by simp)), hc, hf, Bool.false_eq_true, if_false, h1, Result.andThen_ok]
    rw [ih, wset_wset]
    simp only [putA]
    rw [show o + (i + 1) = o + i + 1 by omega]

theorem run_storeVar {P : Program} {t : TypeId} {b o n : Nat} {T : TypeId} {v : Value} {vs : List Value} {w : World} {cs : Array Value} (hn : sizeT P t = some n) (hvs : v.cells.toList = vs) (hl : vs.length = n)
    (h : w.heap[b]? = some (.cells cs T (0, 0))) (hs : o + n ≤ cs.size) (hv : ∀ v ∈ vs, v.oneCell' = true) :
    (storeVar t ⟨b, o, none⟩ v).run P w = .ok () (wset w b (.cells (putA cs o vs) T (0, 0))) := by
  have := run_storeCells (P := P) (o := o) vs 0 w cs h (by omega) hv
  have hsz : v.cells.size = n := by rw [← hl, ← hvs]; simp
  simp only [storeVar, Sem.run_bind, run_sizeOf hn, Result.andThen_ok, hsz, ne_eq, not_true_eq_false, if_false, hvs]
  simpa using this

section
variable {β : Nat → HI} {N : Nat} {I : Nat → Prop} {w : World}

theorem cell_one : ∀ {sv : SV} {v : Value}, sv.cell = true → Rel β N I w sv v → v.oneCell' = true := by
  intro sv v h hr
  cases sv with
  | junk | agg | tup => simp [SV.cell] at h
  | dv d =>
    simp only [Rel] at hr
    cases d <;> simp only [DRel] at hr <;> first | (subst hr; rfl) | (obtain ⟨a, rfl⟩ := hr; rfl) | (obtain ⟨a, c, rfl, _⟩ := hr; rfl)
  | ptr | pat | vec | mp => simp only [Rel] at hr; rw [hr.2]; rfl
  | gp => simp only [Rel] at hr; rw [hr]; rfl
  | win => simp only [Rel] at hr; obtain ⟨_, _, _, _, rfl, _⟩ := hr; rfl
  | pseq => simp only [Rel] at hr; obtain ⟨_, b, o, cs, T, fz, rfl, _⟩ := hr; rfl
  | fn => simp only [Rel] at hr; obtain ⟨_, rfl, _⟩ := hr; rfl
  | bfn => simp only [Rel] at hr; obtain ⟨_, rfl, _⟩ := hr; rfl
  | mfn => simp only [Rel] at hr; obtain ⟨_, rfl, _⟩ := hr; rfl
  | ifc => simp only [Rel] at hr; obtain ⟨_, rfl, _⟩ := hr; rfl

theorem cells_one : ∀ {l : List SV} {vs : List Value}, allCells l = true → RelL β N I w l vs → ∀ v ∈ vs, v.oneCell' = true
  | [], _, _, h => by simp only [RelL] at h; subst h; simp
  | x :: l, _, ha, h => by
    simp only [RelL] at h
    obtain ⟨y, ys, rfl, hx, h⟩ := h
    simp only [allCells, Bool.and_eq_true] at ha
    intro v hv
    rcases List.mem_cons.1 hv with rfl | hv
    · exact cell_one ha.1 hx
    · exact cells_one ha.2 h v hv

theorem segs_far : ∀ {ss off} {cs cs' : Array Value}, SegsSat β N I w cs off ss → cs'.size = cs.size → (∀ k, off ≤ k → cs'[k]? = cs[k]?) → SegsSat β N I w cs' off ss
  | [], _, _, _, h, hs, _ => by simp only [SegsSat] at h ⊢; omega
  | .one _ :: _, off, _, _, h, hs, hk => by
    refine ⟨?_, segs_far h.2 hs fun k hk' => hk k (by omega)⟩
    rw [hk off (Nat.le_refl _)]
    exact h.1
  | .arr n sz _ :: _, off, _, _, h, hs, hk => by
    refine ⟨fun i f hi hf => ?_, segs_far h.2 hs fun k hk' => hk k (by omega)⟩
    rw [hk _ (by omega)]
    exact h.1 i f hi hf

theorem segSet_ok : ∀ {ss off o ss' v x} {cs : Array Value}, SegsSat β N I w cs off ss → segSet ss o v = some ss' → Rel β N I w v x → SegsSat β N I w (cs.setIfInBounds (off + o) x) off ss'
  | [], _, _, _, _, _, _, _, h, _ => by simp [segSet] at h
  | .one _ :: r, off, 0, _, v, x, cs, hs, h, hr => by
    simp only [segSet, Option.some.injEq] at h
    subst h
    obtain ⟨⟨y, hy, _⟩, hs⟩ := hs
    refine ⟨⟨x, ?_, hr⟩, segs_far hs (by simp) fun k hk => by rw [Array.getElem?_setIfInBounds_ne (by omega)]⟩
    have : off < cs.size := by
      rcases Nat.lt_or_ge off cs.size with h' | h'
      · exact h'
      · rw [Array.getElem?_eq_none h'] at hy; cases hy
    simp [this]
  | .one y :: r, off, n + 1, _, v, x, cs, hs, h, hr => by
    simp only [segSet] at h
    split at h
    · rename_i l hl
      simp only [Option.some.injEq] at h
      subst h
      refine ⟨?_, ?_⟩
      · rw [Array.getElem?_setIfInBounds_ne (by omega)]; exact hs.1
      · have := segSet_ok hs.2 hl hr
        rwa [show off + (n + 1) = off + 1 + n by omega]
    · cases h
  | .arr n sz at_ :: r, off, o, _, v, x, cs, hs, h, hr => by
    simp only [segSet] at h
    split at h
    · rename_i ho
      simp only [Option.some.injEq] at h
      subst h
      have hsz : 0 < sz := by
        rcases Nat.eq_zero_or_pos sz with h0 | h0
        · subst h0; simp at ho
        · exact h0
      have hdm : o / sz * sz + o % sz = o := by have := Nat.div_add_mod o sz; rw [Nat.mul_comm] at this; exact this
      refine ⟨fun i f hi hf => ?_, segs_far hs.2 (by simp) fun k hk => by rw [Array.getElem?_setIfInBounds_ne (by omega)]⟩
      obtain ⟨y, hy, hry⟩ := hs.1 i f hi hf
      by_cases he : i = o / sz ∧ f = o % sz
      · obtain ⟨rfl, rfl⟩ := he
        refine ⟨x, ?_, by simpa using hr⟩
        have hlt : off + o < cs.size := by
          rcases Nat.lt_or_ge (off + o) cs.size with h' | h'
          · exact h'
          · rw [Array.getElem?_eq_none (by omega)] at hy; cases hy
        rw [show off + o / sz * sz + o % sz = off + o by omega]
        simp [hlt]
      · refine ⟨y, ?_, by simpa [he] using hry⟩
        rw [Array.getElem?_setIfInBounds_ne ?_]
        · exact hy
        · intro hc
          apply he
          have hc : o = i * sz + f := by omega
          subst hc
          rw [Nat.add_comm, Nat.add_mul_div_right _ _ hsz, Nat.div_eq_of_lt hf, Nat.add_mul_mod_self_right, Nat.mod_eq_of_lt hf]
          simp
    · rename_i ho
      split at h
      · rename_i l hl
        simp only [Option.some.injEq] at h
        subst h
        refine ⟨fun i f hi hf => ?_, ?_⟩
        · rw [Array.getElem?_setIfInBounds_ne ?_]
          · exact hs.1 i f hi hf
          · have : (i + 1) * sz ≤ n * sz := Nat.mul_le_mul_right _ hi
            rw [Nat.add_mul] at this
            omega
        · have := segSet_ok hs.2 hl hr
          rwa [show off + o = off + n * sz + (o - n * sz) by omega]
      · cases h

theorem segPut_ok : ∀ {l ss o ss' vs} {cs : Array Value}, SegsSat β N I w cs 0 ss → segPut ss o l = some ss' → RelL β N I w l vs → SegsSat β N I w (putA cs o vs) 0 ss'
  | [], _, _, _, _, _, hs, h, hr => by
    simp only [RelL] at hr
    subst hr
    simp only [segPut, Option.some.injEq] at h
    subst h
    exact hs
  | v :: l, _, o, _, _, _, hs, h, hr => by
    simp only [RelL] at hr
    obtain ⟨y, ys, rfl, hx, hr⟩ := hr
    simp only [segPut] at h
    split at h
    · rename_i ss1 h1
      have := segSet_ok hs h1 hx
      rw [Nat.zero_add] at this
      simp only [putA]
      exact segPut_ok this h hr
    · cases h

theorem segSet_lt : ∀ {ss off o ss' v} {cs : Array Value}, SegsSat β N I w cs off ss → segSet ss o v = some ss' → off + o < cs.size := by
  intro ss off o ss' v cs hs h
  have : segGet ss o ≠ none := by
    induction ss generalizing o ss' off with
    | nil => simp [segSet] at h
    | cons a r ih =>
      cases a with
      | one x =>
        cases o with
        | zero => simp [segGet]
        | succ o =>
          simp only [segSet] at h
          split at h
          · rename_i l hl
            simp only [segGet]
            exact ih hs.2 hl
          · cases h
      | arr n sz at_ =>
        simp only [segSet] at h
        simp only [segGet]
        split
        · simp
        · rename_i ho
          rw [if_neg ho] at h
          split at h
          · rename_i l hl
            exact ih hs.2 hl
          · cases h
  obtain ⟨u, hu⟩ := Option.ne_none_iff_exists'.1 this
  obtain ⟨x, hx, _⟩ := segGet_ok hs hu
  rcases Nat.lt_or_ge (off + o) cs.size with h' | h'
  · exact h'
  · rw [Array.getElem?_eq_none h'] at hx; cases hx

theorem segPut_le : ∀ {l : List SV} {ss o ss'} {vs : List Value} {cs : Array Value}, SegsSat β N I w cs 0 ss → segPut ss o l = some ss' → RelL β N I w l vs → l ≠ [] → o + l.length ≤ cs.size
  | [], _, _, _, _, _, _, _, _, h => (h rfl).elim
  | v :: l, ss, o, _, _, cs, hs, h, hr, _ => by
    simp only [RelL] at hr
    obtain ⟨y, ys, rfl, hx, hr⟩ := hr
    simp only [segPut] at h
    split at h
    · rename_i ss1 h1
      have hlt := segSet_lt hs h1
      have hs1 := segSet_ok hs h1 hx
      rw [Nat.zero_add] at hs1
      cases l with
      | nil => simp; omega
      | cons z l =>
        have := segPut_le hs1 h hr (by simp)
        simp only [Array.size_setIfInBounds, List.length_cons] at this ⊢
        omega
    · cases h

theorem updRow_ok {at_ : Nat → Nat → SV} {i f n sz p : Nat} {l : List SV} {vs : List Value} {cs : Array Value} (hr : ∀ i f, i < n → f < sz → ∃ x, cs[p + i * sz + f]? = some x ∧ Rel β N I w (at_ i f) x)
    (hl : RelL β N I w l vs) (hi : i < n) (hf : f + l.length ≤ sz) (hle : p + n * sz ≤ cs.size) :
    ∀ j g, j < n → g < sz → ∃ x, (putA cs (p + i * sz + f) vs)[p + j * sz + g]? = some x ∧ Rel β N I w (updRow at_ i f l j g) x := by
  intro j g hj hg
  have hlen := hl.length
  have hmul : (i + 1) * sz ≤ n * sz := Nat.mul_le_mul_right _ hi
  rw [Nat.add_mul] at hmul
  by_cases hji : j = i
  · subst hji
    simp only [updRow, if_true]
    split
    · rename_i hgf
      rw [putA_get _ _ _ _ (.inl (by omega))]
      exact hr j g hj hg
    · rename_i hgf
      cases hv : lget l (g - f) with
      | some v =>
        obtain ⟨x, hx, hrx⟩ := hl.get hv
        refine ⟨x, ?_, hrx⟩
        have := putA_at vs cs (p + j * sz + f) (g - f) x (by omega) hx
        rwa [show p + j * sz + g = p + j * sz + f + (g - f) by omega]
      | none =>
        rw [lget_eq, List.getElem?_eq_none_iff] at hv
        rw [putA_get _ _ _ _ (.inr (by omega))]
        exact hr j g hj hg
  · simp only [updRow, if_neg hji]
    have hne : (p + j * sz + g < p + i * sz + f) ∨ (p + i * sz + f + vs.length ≤ p + j * sz + g) := by
      rcases Nat.lt_or_gt_of_ne hji with h | h
      · left
        have : (j + 1) * sz ≤ i * sz := Nat.mul_le_mul_right _ h
        rw [Nat.add_mul] at this
        omega
      · right
        have : (i + 1) * sz ≤ j * sz := Nat.mul_le_mul_right _ h
        rw [Nat.add_mul] at this
        omega
    rw [putA_get _ _ _ _ hne]
    exact hr j g hj hg

theorem segArrSet_ok : ∀ {ss off o n sz at_ at2 vs q} {cs : Array Value}, SegsSat β N I w cs off ss → segArr ss o = some (n, sz, at_) → off + o ≤ q → q + vs.length ≤ off + o + n * sz →
    (∀ i f, i < n → f < sz → ∃ x, (putA cs q vs)[off + o + i * sz + f]? = some x ∧ Rel β N I w (at2 i f) x) → SegsSat β N I w (putA cs q vs) off (segArrSet ss o at2)
  | [], _, _, _, _, _, _, _, _, _, _, h, _, _, _ => by simp [segArr] at h
  | .arr n sz at_ :: r, off, 0, _, _, _, at2, vs, q, cs, hs, h, h1, h2, hr => by
    simp only [segArr, Option.some.injEq, Prod.mk.injEq] at h
    obtain ⟨rfl, rfl, rfl⟩ := h
    simp only [segArrSet]
    exact ⟨by simpa using hr, segs_far hs.2 (putA_size _ _ _) fun k hk => putA_get _ _ _ _ (.inr (by omega))⟩
  | .one y :: r, off, k + 1, _, _, _, at2, vs, q, cs, hs, h, h1, h2, hr => by
    simp only [segArr] at h
    simp only [segArrSet]
    refine ⟨by rw [putA_get _ _ _ _ (.inl (by omega))]; exact hs.1, segArrSet_ok hs.2 h (by omega) (by omega) ?_⟩
    simpa only [show off + (k + 1) = off + 1 + k by omega] using hr
  | .arr m z a :: r, off, k + 1, n, sz, _, at2, vs, q, cs, hs, h, h1, h2, hr => by
    simp only [segArr] at h
    split at h
    · rename_i hk
      simp only [segArrSet]
      refine ⟨fun i f hi hf => ?_, segArrSet_ok hs.2 h (by omega) (by omega) ?_⟩
      · have : (i + 1) * z ≤ m * z := Nat.mul_le_mul_right _ hi
        rw [Nat.add_mul] at this
        rw [putA_get _ _ _ _ (.inl (by omega))]
        exact hs.1 i f hi hf
      · simpa only [show off + (k + 1) = off + m * z + (k + 1 - m * z) by omega] using hr
    · cases h
  | .one _ :: _, _, 0, _, _, _, _, _, _, _, _, h, _, _, _ => by simp [segArr] at h
end

end Go.V
