/-
  The conditions suffice: append.
-/
import Derived.Test.YtiaceoomiflgcaaVcgJ
namespace Go.V
variable {O : Type} [Objs O]

/-- What stood behind one handle stands behind a new one, changed, or has been left. -/
theorem MSat.move {β : Nat → HI} {I : Nat → Prop} {w w' : World} {F : Nat → Nat → Prop} {mem : List (Chunk O)} {h : Nat} {c : Chunk O} {hi : HI} {G : Nat → Prop} (hm : MSat β I w F mem) (hh : h < mem.length)
    (hsz : w.heap.size ≤ w'.heap.size) (hw : ∀ b, b < w.heap.size → ¬ F h b → w'.heap[b]? = w.heap[b]?) (hG : ∀ b, G b → F h b ∨ (w.heap.size ≤ b ∧ b < w'.heap.size))
    (hc : CSat (fup β mem.length hi) (mem.length + 1) I w' mem.length G c) : MSat (fup β mem.length hi) I w' (fup (fup F h (fun _ => False)) mem.length G) (lset mem h .gone ++ [c]) := by
  have hlen : (lset mem h .gone).length = mem.length := by simp [lset_eq]
  have hF' : ∀ k b, fup F h (fun _ => False) k b → k ≠ h ∧ F k b := fun k b hk => by
    by_cases e : k = h
    · subst e; rw [fup_eq] at hk; exact hk.elim
    · rw [fup_ne e] at hk; exact ⟨e, hk⟩
  have hwk : ∀ k b, k ≠ h → (I b ∨ F k b) → w'.heap[b]? = w.heap[b]? := fun k b hk hb => by
    rcases hb with hb | hb
    · exact hw b (hm.whole b hb) fun hF => (hm.old h b hF).2 hb
    · exact hw b (hm.old k b hb).1 fun hF => hk (hm.apart k h b hb hF)
  have hGF : ∀ k b, k ≠ h → F k b → G b → False := fun k b hk hb hg => by
    rcases hG b hg with hg | hg
    · exact hk (hm.apart k h b hb hg)
    · have := (hm.old k b hb).1; omega
  refine ⟨fun k d hk => ?_, fun k k' b h1 h2 => ?_, fun k b hk => ?_, fun k b hk => ?_, ⟨fun b hb => Nat.lt_of_lt_of_le (hm.whole b hb) hsz, hm.wh.2.mono (fun _ h => h) fun b hb => hw b (hm.whole b hb) fun hF => (hm.old h b hF).2 hb⟩⟩
  · rw [List.length_append, List.length_singleton, hlen]
    by_cases hkl : k < mem.length
    · rw [List.getElem?_append_left (by rw [hlen]; exact hkl)] at hk
      rw [fup_lt hkl]
      rw [lset_eq, List.getElem?_set] at hk
      split at hk
      · rename_i hkh
        subst hkh
        simp only [Option.some.injEq] at hk
        subst hk
        rw [fup_eq]
        exact fun b hb => hb
      · rename_i hkh
        rw [fup_ne (fun e => hkh e.symm)]
        exact (hm.chunk k d hk).mono hkl (fun h hh => fup_lt hh) (Nat.le_succ _) (fun _ h => h) fun b hb => hwk k b (fun e => hkh e.symm) hb
    · rw [List.getElem?_append_right (by rw [hlen]; omega), hlen] at hk
      have hk0 : k = mem.length := by
        rcases Nat.lt_or_ge (k - mem.length) 1 with h' | h'
        · omega
        · rw [List.getElem?_eq_none (by simpa using h')] at hk; cases hk
      subst hk0
      simp only [Nat.sub_self, List.getElem?_cons_zero, Option.some.injEq] at hk
      subst hk
      rw [fup_eq]
      exact hc
  · by_cases e1 : k = mem.length <;> by_cases e2 : k' = mem.length
    · omega
    · subst e1
      rw [fup_eq] at h1
      rw [fup_ne e2] at h2
      obtain ⟨h3, h4⟩ := hF' k' b h2
      exact (hGF k' b h3 h4 h1).elim
    · subst e2
      rw [fup_eq] at h2
      rw [fup_ne e1] at h1
      obtain ⟨h3, h4⟩ := hF' k b h1
      exact (hGF k b h3 h4 h2).elim
    · rw [fup_ne e1] at h1
      rw [fup_ne e2] at h2
      exact hm.apart k k' b (hF' k b h1).2 (hF' k' b h2).2
  · rw [List.length_append, List.length_singleton, hlen] at hk
    rw [fup_ne (by omega), fup_ne (by omega)]
    exact hm.none k b (by omega)
  · by_cases e1 : k = mem.length
    · subst e1
      rw [fup_eq] at hk
      rcases hG b hk with hg | hg
      · obtain ⟨h1, h2⟩ := hm.old h b hg
        exact ⟨by omega, h2⟩
      · exact ⟨hg.2, fun hI => by have := hm.whole b hI; omega⟩
    · rw [fup_ne e1] at hk
      obtain ⟨h1, h2⟩ := hm.old k b (hF' k b hk).2
      exact ⟨by omega, h2⟩

theorem Went.move {w w' : World} {F : Nat → Nat → Prop} {I G : Nat → Prop} {n h : Nat} (hos : w'.os = w.os) (ht : w'.tape = w.tape) (ho : w'.output = w.output)
    (hsz : w.heap.size ≤ w'.heap.size) (hw : ∀ b, b < w.heap.size → ¬ F h b → w'.heap[b]? = w.heap[b]?) (hG : ∀ b, G b → F h b ∨ (w.heap.size ≤ b ∧ b < w'.heap.size))
    (hf : ∀ a, w'.frozen? a = w.frozen? a) :
    Went w (fun b => ∃ h, F h b) I w' (fun b => ∃ k, fup (fup F h (fun _ => False)) n G k b) I :=
  ⟨hos, ht, ho, hsz, fun b hb hn => hw b hb fun hF => hn ⟨h, hF⟩, fun a _ => hf a, fun _ h => h, fun b ⟨k, hk⟩ => by
    by_cases e : k = n
    · subst e; rw [fup_eq] at hk; exact (hG b hk).elim (fun h' => .inl ⟨h, h'⟩) fun h' => .inr h'.1
    · rw [fup_ne e] at hk
      by_cases e' : k = h
      · subst e'; rw [fup_eq] at hk; exact hk.elim
      · rw [fup_ne e'] at hk; exact .inl ⟨k, hk⟩, fun _ h => .inl h⟩

theorem sem_move {P : Program} {o : Oper} {s : St O} {K : St O → Prop} {c c0 : Chunk O} {hh : Nat} {sv : SV} (hc0 : lget s.mem hh = some c0) (hK : K (((s.mset hh .gone).madd c).put o.dst sv))
    (h : ∀ (a : Act) (w : World) (β : Nat → HI) (I : Nat → Prop) (F : Nat → Nat → Prop), MSat β I w F s.mem → RelL β s.mem.length I w s.env a.tmps.toList →
      ∃ (v : Value) (w' : World) (hi : HI) (G : Nat → Prop), (execOp a.eval o).run P w = .ok (.value v) w' ∧ w'.os = w.os ∧ w'.tape = w.tape ∧ w'.output = w.output ∧ w.heap.size ≤ w'.heap.size ∧
        (∀ b, b < w.heap.size → ¬ F hh b → w'.heap[b]? = w.heap[b]?) ∧ (∀ b, G b → F hh b ∨ (w.heap.size ≤ b ∧ b < w'.heap.size)) ∧ (∀ a, w'.frozen? a = w.frozen? a) ∧
        CSat (fup β s.mem.length hi) (s.mem.length + 1) I w' s.mem.length G c ∧ Rel (fup β s.mem.length hi) (s.mem.length + 1) I w' sv v) : SemO P o s K := by
  intro fr a w hs next Q hnext
  obtain ⟨hd, β, I, F, hm, he, hw, hb, hn⟩ := hs
  obtain ⟨v, w', hi, G, hr, hos, ht, ho, hsz, hw', hG, hf, hc, hv⟩ := h a w β I F hm he
  have hhl : hh < s.mem.length := by
    rw [lget_eq] at hc0
    exact (List.getElem?_eq_some_iff.1 hc0).1
  have hlen : ((s.mset hh .gone).madd c).mem.length = s.mem.length + 1 := by simp [St.madd, St.mset, lset_eq]
  refine wp_val hr (hnext _ _ _ hK (mkSat (s := (s.mset hh .gone).madd c) (β := fup β s.mem.length hi) (I := I) (F := fup (fup F hh (fun _ => False)) s.mem.length G) hd ?_ ?_ ?_ ?_ ?_ ?_))
  · exact hm.move hhl hsz hw' hG hc
  · rw [hlen]
    exact he.mono (fun _ hh => fup_lt hh) (Nat.le_succ _) (fun _ h => h) fun k hk => hw' k (hm.whole k hk) fun hF => (hm.old hh k hF).2 hk
  · exact hw.trans (Went.move hos ht ho hsz hw' hG hf)
  · intro h hh
    rw [fup_lt (by omega)]
    exact hb h hh
  · rw [hlen]; omega
  · rw [hlen]; exact hv

/-! ### What is appended -/
theorem loadRow {P : Program} {w : World} {b o k : Nat} {cs : Array Value} {T : TypeId} {fz : Nat × Nat} (h : w.heap[b]? = some (.cells cs T fz)) (hle : o + k ≤ cs.size) :
    (loadCells ⟨b, o, none⟩ k).run P w = .ok ((cs.toList.drop o).take k).toArray w := by
  have hlen : ((cs.toList.drop o).take k).length = k := by simp; omega
  have := run_loadCells_list (P := P) w ⟨b, o, none⟩ ((cs.toList.drop o).take k) fun j v hj => by
    rw [add_addr, cell_of h]
    rw [List.getElem?_take] at hj
    split at hj
    · rw [List.getElem?_drop] at hj
      simpa using hj
    · cases hj
  rwa [hlen] at this

theorem row_get {cs : Array Value} {o k j : Nat} (hj : j < k) : ((cs.toList.drop o).take k)[j]? = cs[o + j]? := by
  rw [List.getElem?_take, if_pos hj, List.getElem?_drop]
  simp

/-- A world from which one answer more has been drawn. -/
def wdrew (w : World) : World := { w with drawn := w.drawn + 1 }

/-- A slice value's first cells, here and behind a draw. -/
def Src (P : Program) (sz m : Nat) (v : Value) (w : World) (xs : List Value) : Prop :=
  xs.length = m * sz ∧ (Builtin.firstCells sz m v).run P w = .ok xs.toArray w ∧ (Builtin.firstCells sz m v).run P (wdrew w) = .ok xs.toArray (wdrew w)

theorem src_ok {P : Program} {s : St O} {sz m : Nat} {bt : Nat → Nat → SV} {sy : SV} {vy : Value} {β : Nat → HI} {I : Nat → Prop} {w : World} {F : Nat → Nat → Prop} (hm : MSat β I w F s.mem)
    (h : appSrc s sz sy = some (m, bt)) (hr : Rel β s.mem.length I w sy vy) :
    (∃ base cap, vy = .slice base m cap) ∧ ∃ xs, Src P sz m vy w xs ∧ ∀ i f, i < m → f < sz → ∃ x, xs[i * sz + f]? = some x ∧ Rel β s.mem.length I w (bt i f) x ∧ x.oneCell' = true := by
  unfold appSrc at h
  split at h
  · simp only [Option.some.injEq, Prod.mk.injEq] at h
    obtain ⟨rfl, rfl⟩ := h
    simp only [Rel, DRel] at hr
    subst hr
    exact ⟨⟨none, 0, rfl⟩, [], ⟨by simp, by simp [Builtin.firstCells], by simp [Builtin.firstCells]⟩, fun i f hi => by omega⟩
  · simp only [Option.some.injEq, Prod.mk.injEq] at h
    obtain ⟨rfl, rfl⟩ := h
    simp only [Rel, DRel] at hr
    obtain ⟨a, rfl⟩ := hr
    refine ⟨⟨_, 0, rfl⟩, [], ⟨by simp, ?_, ?_⟩, fun i f hi => by omega⟩ <;>
    cases a <;> simp [Builtin.firstCells, loadCells, loadCellsFrom]
  · split at h
    · rename_i n sz' at_ hsz
      subst hsz
      simp only [Option.some.injEq, Prod.mk.injEq] at h
      obtain ⟨rfl, rfl⟩ := h
      simp only [Rel, DRel] at hr
      obtain ⟨a, cap, rfl, hn, _, hr⟩ := hr
      rcases Nat.eq_zero_or_pos n with h0 | h0
      · subst h0
        refine ⟨⟨_, cap, rfl⟩, [], ⟨by simp, ?_, ?_⟩, fun i f hi => by omega⟩ <;>
        cases a <;> simp [Builtin.firstCells, loadCells, loadCellsFrom]
      · obtain ⟨b, o, cs, T, fz, rfl, hI, hb, hs, hr⟩ := hr h0
        refine ⟨⟨_, cap, rfl⟩, (cs.toList.drop o).take (n * sz'), ⟨by simp; omega, loadRow hb hs, loadRow (w := wdrew w) hb hs⟩, fun i f hi hf => ?_⟩
        have hmul : (i + 1) * sz' ≤ n * sz' := Nat.mul_le_mul_right _ hi
        rw [Nat.add_mul] at hmul
        have hlt : o + (i * sz' + f) < cs.size := by omega
        refine ⟨cs[o + (i * sz' + f)], by rw [row_get (by omega)]; simp [hlt], ?_⟩
        have := hr i f hi hf
        rw [show o + i * sz' + f = o + (i * sz' + f) by omega] at this
        have h2 : Rel β s.mem.length I w (dvAt at_ i f) cs[o + (i * sz' + f)] := by simpa [Rel, dvAt, hlt] using this
        exact ⟨h2, cell_one (by rfl) h2⟩
    · cases h
  · rename_i hh
    split at h
    · rename_i n sz' at_ hch
      split at h
      · rename_i hsz
        subst hsz
        simp only [Option.some.injEq, Prod.mk.injEq] at h
        obtain ⟨rfl, rfl⟩ := h
        simp only [Rel] at hr
        have hcs := lget_chunk hm hch
        simp only [CSat] at hcs
        obtain ⟨hl, hn, hcap, hnil, hcs⟩ := hcs
        rw [hl] at hr
        rcases Nat.eq_zero_or_pos n with h0 | h0
        · subst h0
          refine ⟨⟨_, _, hr.2⟩, [], ⟨by simp, ?_, ?_⟩, fun i f hi => by omega⟩ <;> rw [hr.2] <;>
          cases (β hh).adr <;> simp [Builtin.firstCells, loadCells, loadCellsFrom]
        · rw [if_neg (by omega)] at hcs
          obtain ⟨hF, cs, T, hb, hs, hrr⟩ := hcs
          have hnf : (β hh).nil = false := by
            cases hb : (β hh).nil
            · rfl
            · have := hnil hb; omega
          have hmul2 : n * sz' ≤ (β hh).cap * sz' := Nat.mul_le_mul_right _ hcap
          refine ⟨⟨_, _, hr.2⟩, (cs.toList.drop (β hh).off).take (n * sz'), ⟨by simp; omega, ?_, ?_⟩, fun i f hi hf => ?_⟩
          · rw [hr.2, HI.adr_some hnf (by omega)]
            exact loadRow hb (by omega)
          · rw [hr.2, HI.adr_some hnf (by omega)]
            exact loadRow (w := wdrew w) hb (by omega)
          · have hmul : (i + 1) * sz' ≤ n * sz' := Nat.mul_le_mul_right _ hi
            rw [Nat.add_mul] at hmul
            obtain ⟨x, hx, hrx, h1⟩ := hrr i f hi hf
            exact ⟨x, by rw [row_get (by omega), ← Nat.add_assoc]; exact hx, hrx, h1⟩
      · cases h
    · cases h
  · cases h

end Go.V
