/-
  The conditions suffice: new blocks; struct values; appends.
-/
import Derived.Test.YtiaceoomiflgcaaVcgI
namespace Go.V
variable {O : Type} [Objs O]

def fup {α : Type} (f : Nat → α) (n : Nat) (x : α) : Nat → α := fun k => if k = n then x else f k

theorem fup_eq {α : Type} {f : Nat → α} {n : Nat} {x : α} : fup f n x n = x := by simp [fup]
theorem fup_ne {α : Type} {f : Nat → α} {n k : Nat} {x : α} (h : k ≠ n) : fup f n x k = f k := by simp [fup, h]
theorem fup_lt {α : Type} {f : Nat → α} {n k : Nat} {x : α} (h : k < n) : fup f n x k = f k := fup_ne (by omega)

/-- One more handle: blocks that are new. -/
theorem MSat.add {β : Nat → HI} {I : Nat → Prop} {w w' : World} {F : Nat → Nat → Prop} {mem : List (Chunk O)} {c : Chunk O} {hi : HI} {G : Nat → Prop} (hm : MSat β I w F mem)
    (hsz : w.heap.size ≤ w'.heap.size) (hw : ∀ b, b < w.heap.size → w'.heap[b]? = w.heap[b]?) (hG : ∀ b, G b → w.heap.size ≤ b ∧ b < w'.heap.size)
    (hc : CSat (fup β mem.length hi) (mem.length + 1) I w' mem.length G c) : MSat (fup β mem.length hi) I w' (fup F mem.length G) (mem ++ [c]) := by
  have hwk : ∀ h k, I k ∨ F h k → w'.heap[k]? = w.heap[k]? := fun h k hk => hw k (hk.elim (hm.whole k) fun hk => (hm.old h k hk).1)
  refine ⟨fun k d hk => ?_, fun h h' b h1 h2 => ?_, fun h b hh => ?_, fun h b hh => ?_, ⟨fun b hb => Nat.lt_of_lt_of_le (hm.whole b hb) hsz, hm.wh.2.mono (fun _ h => h) fun b hb => hw b (hm.whole b hb)⟩⟩
  · rw [List.length_append, List.length_singleton]
    by_cases hkl : k < mem.length
    · rw [List.getElem?_append_left hkl] at hk
      rw [fup_lt hkl]
      exact (hm.chunk k d hk).mono hkl (fun h hh => fup_lt hh) (Nat.le_succ _) (fun _ h => h) (hwk k)
    · rw [List.getElem?_append_right (by omega)] at hk
      have hk0 : k = mem.length := by
        rcases Nat.lt_or_ge (k - mem.length) 1 with h' | h'
        · omega
        · rw [List.getElem?_eq_none (by simpa using h')] at hk; cases hk
      subst hk0
      simp only [Nat.sub_self, List.getElem?_cons_zero, Option.some.injEq] at hk
      subst hk
      rw [fup_eq]
      exact hc
  · by_cases e1 : h = mem.length <;> by_cases e2 : h' = mem.length
    · omega
    · subst e1
      rw [fup_eq] at h1
      rw [fup_ne e2] at h2
      have := hG b h1
      have := (hm.old h' b h2).1
      omega
    · subst e2
      rw [fup_eq] at h2
      rw [fup_ne e1] at h1
      have := hG b h2
      have := (hm.old h b h1).1
      omega
    · rw [fup_ne e1] at h1
      rw [fup_ne e2] at h2
      exact hm.apart h h' b h1 h2
  · rw [List.length_append, List.length_singleton] at hh
    rw [fup_ne (by omega)]
    exact hm.none h b (by omega)
  · by_cases e1 : h = mem.length
    · subst e1
      rw [fup_eq] at hh
      obtain ⟨h1, h2⟩ := hG b hh
      exact ⟨h2, fun hI => by have := hm.whole b hI; omega⟩
    · rw [fup_ne e1] at hh
      obtain ⟨h1, h2⟩ := hm.old h b hh
      exact ⟨by omega, h2⟩

theorem Went.add {w w' : World} {F : Nat → Nat → Prop} {I G : Nat → Prop} {n : Nat} (hn : ∀ b, ¬ F n b) (hos : w'.os = w.os) (ht : w'.tape = w.tape) (ho : w'.output = w.output)
    (hsz : w.heap.size ≤ w'.heap.size) (hw : ∀ b, b < w.heap.size → w'.heap[b]? = w.heap[b]?) (hG : ∀ b, G b → w.heap.size ≤ b ∧ b < w'.heap.size) (hf : ∀ a, w'.frozen? a = w.frozen? a) :
    Went w (fun b => ∃ h, F h b) I w' (fun b => ∃ h, fup F n G h b) I :=
  ⟨hos, ht, ho, hsz, fun b hb _ => hw b hb, fun a _ => hf a, fun _ h => h, fun b ⟨h, hh⟩ => by
    by_cases e : h = n
    · subst e; rw [fup_eq] at hh; exact .inr (hG b hh).1
    · rw [fup_ne e] at hh; exact .inl ⟨h, hh⟩, fun _ h => .inl h⟩

/-- An operation that makes a block, or none, and knows of it by a new handle. -/
theorem sem_new {P : Program} {o : Oper} {s : St O} {K : St O → Prop} {c : Chunk O} {sv : SV} (hK : K ((s.madd c).put o.dst sv))
    (h : ∀ (a : Act) (w : World) (β : Nat → HI) (I : Nat → Prop) (F : Nat → Nat → Prop), MSat β I w F s.mem → RelL β s.mem.length I w s.env a.tmps.toList →
      ∃ (v : Value) (w' : World) (hi : HI) (G : Nat → Prop), (execOp a.eval o).run P w = .ok (.value v) w' ∧ w'.os = w.os ∧ w'.tape = w.tape ∧ w'.output = w.output ∧ w.heap.size ≤ w'.heap.size ∧
        (∀ b, b < w.heap.size → w'.heap[b]? = w.heap[b]?) ∧ (∀ b, G b → w.heap.size ≤ b ∧ b < w'.heap.size) ∧ (∀ a, w'.frozen? a = w.frozen? a) ∧
        CSat (fup β s.mem.length hi) (s.mem.length + 1) I w' s.mem.length G c ∧ Rel (fup β s.mem.length hi) (s.mem.length + 1) I w' sv v) : SemO P o s K := by
  intro fr a w hs next Q hnext
  obtain ⟨hd, β, I, F, hm, he, hw, hb, hn⟩ := hs
  obtain ⟨v, w', hi, G, hr, hos, ht, ho, hsz, hw', hG, hf, hc, hv⟩ := h a w β I F hm he
  have hlen : (s.madd c).mem.length = s.mem.length + 1 := by simp [St.madd]
  refine wp_val hr (hnext _ _ _ hK (mkSat (s := s.madd c) (β := fup β s.mem.length hi) (I := I) (F := fup F s.mem.length G) hd ?_ ?_ ?_ ?_ ?_ ?_))
  · exact hm.add hsz hw' hG hc
  · rw [hlen]
    exact he.mono (fun _ hh => fup_lt hh) (Nat.le_succ _) (fun _ h => h) fun k hk => hw' k (hm.whole k hk)
  · exact hw.trans (Went.add (fun b => hm.none _ b (Nat.le_refl _)) hos ht ho hsz hw' hG hf)
  · intro h hh
    rw [fup_lt (by omega)]
    exact hb h hh
  · rw [hlen]; omega
  · rw [hlen]; exact hv

/-- The world with one more block. -/
def wpush (w : World) (o : Obj) : World := { w with heap := w.heap.push o }

theorem wpush_old {w : World} {o : Obj} {b : Nat} (h : b < w.heap.size) : (wpush w o).heap[b]? = w.heap[b]? := by
  simp only [wpush, Array.getElem?_push]
  rw [if_neg (by omega)]

theorem wpush_new {w : World} {o : Obj} : (wpush w o).heap[w.heap.size]? = some o := Array.getElem?_push_size

theorem wpush_frozen {w : World} {cs : Array Value} {T : TypeId} (a : Addr) : (wpush w (.cells cs T (0, 0))).frozen? a = w.frozen? a := by
  unfold World.frozen?
  rcases Nat.lt_trichotomy a.block w.heap.size with h | h | h
  · rw [wpush_old h]
  · rw [h, wpush_new, Array.getElem?_eq_none (Nat.le_refl _)]
    simp
  · rw [Array.getElem?_eq_none (by simp [wpush]; omega), Array.getElem?_eq_none (by omega)]

theorem zDV_rel {β : Nat → HI} {N : Nat} {I : Nat → Prop} {w : World} : ∀ {l : List Value} {z : List DV}, zDV l = some z → RelL β N I w (dvs z) l
  | [], _, h => by simp only [zDV, Option.some.injEq] at h; subst h; rfl
  | v :: r, _, h => by
    simp only [zDV] at h
    split at h
    · rename_i d hd
      split at h
      · rename_i l hl
        simp only [Option.some.injEq] at h
        subst h
        exact ⟨v, r, rfl, by have := cV1_rel (β := β) (N := N) (I := I) (w := w) v; rwa [hd] at this, zDV_rel hl⟩
      · cases h
    · cases h

theorem zeroT_spec {P : Program} {t : TypeId} {z : List DV} (h : zeroT P t = some z) : ∃ i v, P.info? t = some i ∧ i.zero = some v ∧ zDV v.cells.toList = some z := by
  unfold zeroT at h
  cases hi : P.info? t with
  | none => simp [hi] at h
  | some i =>
    cases hz : i.zero with
    | none => simp [hi, hz] at h
    | some v => exact ⟨i, v, rfl, hz, by simpa [hi, hz] using h⟩

theorem run_zero {P : Program} {t : TypeId} {w : World} {i : TypeInfo} {v : Value} (hi : P.info? t = some i) (hz : i.zero = some v) : (zeroValue t).run P w = .ok v w := by
  simp [zeroValue, typeInfo, hi, hz]

theorem dvs_length : ∀ z : List DV, (dvs z).length = z.length
  | [] => rfl
  | _ :: r => by simp [dvs, dvs_length r]

theorem shaped_ok {β : Nat → HI} {N : Nat} {I : Nat → Prop} {w : World} {cs : Array Value} : ∀ {sh : List (Option (Nat × Nat))} {l : List SV} {vs : List Value} {off : Nat}, RelL β N I w l vs → shapeN sh = l.length →
    off + vs.length = cs.size → (∀ k v, vs[k]? = some v → cs[off + k]? = some v) → SegsSat β N I w cs off (shaped sh l)
  | [], l, vs, off, hr, hn, hs, _ => by
    have := hr.length
    simp only [shapeN] at hn
    simp only [shaped, SegsSat]
    omega
  | none :: sh, [], vs, off, hr, hn, hs, _ => by simp [shapeN] at hn
  | none :: sh, x :: l, vs, off, hr, hn, hs, hk => by
    simp only [RelL] at hr
    obtain ⟨y, ys, rfl, hx, hr⟩ := hr
    simp only [shapeN, List.length_cons] at hn hs
    refine ⟨⟨y, by simpa using hk 0 y rfl, hx⟩, shaped_ok hr (by omega) (by omega) fun k v hv => ?_⟩
    have := hk (k + 1) v (by simpa using hv)
    rwa [show off + (k + 1) = off + 1 + k by omega] at this
  | some (n, sz) :: sh, l, vs, off, hr, hn, hs, hk => by
    simp only [shapeN] at hn
    have hlen := hr.length
    refine ⟨fun i f hi hf => ?_, ?_⟩
    · have hmul : (i + 1) * sz ≤ n * sz := Nat.mul_le_mul_right _ hi
      rw [Nat.add_mul] at hmul
      have hlt : i * sz + f < l.length := by omega
      have hg : lget l (i * sz + f) = some l[i * sz + f] := by rw [lget_eq]; simp [hlt]
      obtain ⟨x, hx, hrx⟩ := hr.get hg
      refine ⟨x, ?_, ?_⟩
      · rw [show off + i * sz + f = off + (i * sz + f) by omega]
        exact hk _ _ hx
      · show Rel β N I w (match lget l (i * sz + f) with | some v => v | none => SV.junk) x
        rw [hg]; exact hrx
    · refine shaped_ok (hr.drop (n * sz)) (by rw [List.length_drop]; omega) (by rw [List.length_drop]; omega) fun k v hv => ?_
      rw [List.getElem?_drop] at hv
      have := hk _ v hv
      rwa [show off + (n * sz + k) = off + n * sz + k by omega] at this

theorem ok_box' {P : Program} {o : Oper} {s : St O} {K : St O → Prop} {t : TypeId} {sh : List (Option (Nat × Nat))} {l : List SV} (hsh : shapeN sh = l.length)
    (hrun : ∀ (a : Act) (w : World) (β : Nat → HI) (I : Nat → Prop), RelL β s.mem.length I w s.env a.tmps.toList → ∃ vs : List Value, RelL β s.mem.length I w l vs ∧
      (execOp a.eval o).run P w = .ok (.value (.pointer (some ⟨w.heap.size, 0, none⟩))) (wpush w (.cells vs.toArray t (0, 0))))
    (h : K ((s.madd (.blk (shaped sh l))).put o.dst (.ptr s.mem.length 0))) : SemO P o s K := by
  refine sem_new h fun a w β I F hm he => ?_
  obtain ⟨vs, hr, hrun⟩ := hrun a w β I he
  refine ⟨_, _, ⟨w.heap.size, 0, 0, 0, false, none⟩, fun b => b = w.heap.size, hrun, rfl, rfl, rfl, by simp [wpush], fun b hb => wpush_old hb, fun b hb => by subst hb; simp [wpush], wpush_frozen, ?_, ?_⟩
  · simp only [CSat, fup_eq]
    refine ⟨fun _ => trivial, ⟨rfl, rfl, rfl, rfl, rfl⟩, vs.toArray, t, wpush_new, ?_⟩
    have hr' : RelL (fup β s.mem.length ⟨w.heap.size, 0, 0, 0, false, none⟩) (s.mem.length + 1) I (wpush w (.cells vs.toArray t (0, 0))) l vs :=
      hr.mono (fun _ hh => fup_lt hh) (Nat.le_succ _) (fun _ h => h) fun k hk => wpush_old (hm.whole k hk)
    exact shaped_ok hr' hsh (by simp) (by simp)
  · simp only [Rel, fup_eq]
    exact ⟨Nat.lt_succ_self _, by simp⟩

theorem ok_alloc {P : Program} {o : Oper} {s : St O} {K : St O → Prop} {t : TypeId} {z : List DV} (ho : o.op = .alloc t) (hz : zeroT P t = some z) (hsh : shapeN (shape0 P t) = z.length)
    (h : vop std P o.dst (.new (shape0 P t) z) s K) : SemO P o s K := by
  obtain ⟨i, v, hi, hv, hzv⟩ := zeroT_spec hz
  simp only [vop] at h
  refine ok_box' (t := t) (by rw [dvs_length]; exact hsh) (fun a w β I he => ⟨v.cells.toList, zDV_rel hzv, ?_⟩) h
  simp only [execOp, ho]
  refine run_v ?_
  simp [Instr.alloc, run_zero hi hv, newVar, newRow, wpush]

theorem ok_box {P : Program} {o : Oper} {s : St O} {K : St O → Prop} {t : TypeId} {x : Operand} (ho : o.op = .box t x)
    (h : vop std P o.dst (.box (shapeN (shape0 P t)) (shape0 P t) (cX x)) s K) : SemO P o s K := by
  have hc : compOp P o.op = .box (shapeN (shape0 P t)) (shape0 P t) (cX x) := by rw [ho]; rfl
  simp only [vop] at h
  split at h
  · rename_i l hl
    split at h
    · rename_i hn
      refine ok_box' (t := t) hn.symm (fun a w β I he => ?_) h
      obtain ⟨vs, hvs, hr⟩ := cells_rel hl (ev_rel he x)
      refine ⟨vs, hr, ?_⟩
      simp only [execOp, ho]
      refine run_v ?_
      simp [Instr.box, newVar, newRow, wpush, ← hvs]
    · exact stuck_ok rfl hc h
  · exact stuck_ok rfl hc h

theorem RelL.of_get {β : Nat → HI} {N : Nat} {I : Nat → Prop} {w : World} : ∀ {l : List SV} {vs : List Value}, vs.length = l.length →
    (∀ k v x, lget l k = some v → vs[k]? = some x → Rel β N I w v x) → RelL β N I w l vs
  | [], vs, h, _ => by simp only [RelL]; exact List.eq_nil_of_length_eq_zero (by simpa using h)
  | v :: l, [], h, _ => by simp at h
  | v :: l, x :: vs, h, hk => ⟨x, vs, rfl, hk 0 v x rfl rfl, RelL.of_get (by simpa using h) fun k v' x' h1 h2 => hk (k + 1) v' x' (by simpa [lget] using h1) (by simpa using h2)⟩

theorem lputs_rel {β : Nat → HI} {N : Nat} {I : Nat → Prop} {w : World} : ∀ {cs : List SV} {ys : List Value} {l : List SV} {xs : List Value} {o : Nat}, RelL β N I w l xs → RelL β N I w cs ys →
    RelL β N I w (lputs l o cs) (putA xs.toArray o ys).toList
  | [], ys, l, xs, o, h, hc => by simp only [RelL] at hc; subst hc; simpa [lputs, putA] using h
  | c :: cs, _, l, xs, o, h, hc => by
    simp only [RelL] at hc
    obtain ⟨y, ys, rfl, hy, hc⟩ := hc
    simp only [lputs, putA]
    have h1 := lputs_rel (o := o + 1) (h.set (i := o) hy) hc
    simpa using h1

theorem lputs_length : ∀ (cs l : List SV) (o : Nat), (lputs l o cs).length = l.length
  | [], _, _ => rfl
  | c :: cs, l, o => by simp [lputs, lputs_length cs, lset_eq]

theorem foldl_putA : ∀ (vs : List Value) (cs : Array Value) (off k : Nat), (vs.zipIdx k).foldl (fun cs (x : Value × Nat) => cs.setIfInBounds (off + x.2) x.1) cs = putA cs (off + k) vs
  | [], _, _, _ => rfl
  | v :: r, cs, off, k => by
    simp only [List.zipIdx_cons, List.foldl_cons, putA]
    rw [foldl_putA r _ off (k + 1)]
    rfl

omit [Objs O] in
theorem fill_ok {β : Nat → HI} {I : Nat → Prop} {w : World} {s : St O} {a : Act} {place : Nat → Option (Nat × Nat)} (he : RelL β s.mem.length I w s.env a.tmps.toList) :
    ∀ {ps : List (Nat × Operand)} {px : List (Nat × Nat × X)} {l l' : List SV} {xs : List Value}, partsX ps place = some px → partsV s px l = some l' → RelL β s.mem.length I w l xs →
      ∃ ys : List Value, RelL β s.mem.length I w l' ys ∧ Instr.fill place xs.toArray (ps.map fun x => (x.1, a.eval x.2)) = some ys.toArray
  | [], px, l, l', xs, hp, hv, hr => by
    simp only [partsX, Option.some.injEq] at hp
    subst hp
    simp only [partsV, Option.some.injEq] at hv
    subst hv
    exact ⟨xs, hr, rfl⟩
  | (i, x) :: r, px, l, l', xs, hp, hv, hr => by
    simp only [partsX] at hp
    split at hp
    · rename_i o n rest hpl hrest
      simp only [Option.some.injEq] at hp
      subst hp
      simp only [partsV] at hv
      split at hv
      · rename_i cs hcs
        split at hv
        · rename_i hn
          obtain ⟨vs, hvs, hrv⟩ := cells_rel hcs (ev_rel he x)
          have hlen := hrv.length
          have hxl := hr.length
          have h1 := lputs_rel (o := o) hr hrv
          obtain ⟨ys, hy, hf⟩ := fill_ok he (xs := (putA xs.toArray o vs).toList) hrest hv h1
          refine ⟨ys, hy, ?_⟩
          simp only [List.map_cons, Instr.fill, hpl]
          have hsz : (a.eval x).cells.size = n := by rw [← hn.1, ← hlen, ← hvs]; simp
          rw [if_neg (by simp only [hsz, ne_eq, not_true_eq_false, decide_false, Bool.false_or, decide_eq_true_eq, List.size_toArray]; omega)]
          rw [← Array.foldl_toList, Array.toList_zipIdx, hvs]
          have := foldl_putA vs xs.toArray o 0
          rw [Nat.add_zero] at this
          rw [this]
          simpa using hf
        · cases hv
      · cases hv
    · cases hp

theorem run_places {P : Program} {w : World} : ∀ {fs : List Field} {l : List (Nat × Nat)}, placesT P fs = some l →
    (fs.mapM fun f => (do pure (f.offset, ← sizeOf f.type) : Sem (Nat × Nat))).run P w = .ok l w
  | [], l, h => by simp only [placesT, Option.some.injEq] at h; subst h; simp
  | f :: r, l, h => by
    simp only [placesT] at h
    split at h
    · rename_i n l' hn hl
      simp only [Option.some.injEq] at h
      subst h
      have := run_places (w := w) hl
      simp only [List.mapM_cons, Sem.run_bind, run_sizeOf hn, Result.andThen_ok, Sem.run_pure, this]
    · cases h

theorem ok_build {P : Program} {o : Oper} {s : St O} {K : St O → Prop} {t : TypeId} {ps : Array (Nat × Operand)} {fs : Array Field} {z : List DV} {pl : List (Nat × Nat)} {l : List (Nat × Nat × X)}
    (ho : o.op = .build t ps) (hu : P.underlying t = some (.struct fs)) (hz : zeroT P t = some z) (hpl : placesT P fs.toList = some pl) (hl : partsX ps.toList (fun i => pl[i]?) = some l)
    (hc : compOp P o.op = .build z l) (h : vop std P o.dst (.build z l) s K) : SemY P o s K [] := by
  obtain ⟨i, v, hi, hv, hzv⟩ := zeroT_spec hz
  simp only [vop] at h
  split at h
  · rename_i l' hl'
    refine sem_pure' fun a w β I F hm he => ?_
    obtain ⟨ys, hy, hf⟩ := fill_ok he hl hl' (zDV_rel hzv)
    refine ⟨.agg ys.toArray, .agg l', fun w' _ => ?_, by simp only [Rel]; exact ⟨ys, rfl, hy⟩, h⟩
    simp only [execOp, ho]
    refine run_v ?_
    have hp := run_places (w := w') hpl
    simp only [Instr.build, Sem.run_bind, run_zero hi hv, Result.andThen_ok, run_underlying' hu, Array.mapM_eq_mapM_toList, Sem.run_map, hp]
    have : (fun x : Nat => pl.toArray[x]?) = fun x => pl[x]? := by funext x; simp
    simp only [this]
    have hf' : Instr.fill (fun x => pl[x]?) v.cells (ps.map fun x => (x.1, a.eval x.2)).toList = some ys.toArray := by simpa using hf
    rw [hf']
    rfl
  · exact stuck_ok rfl hc h

theorem ok_buildA {P : Program} {o : Oper} {s : St O} {K : St O → Prop} {t e : TypeId} {n sz : Nat} {ps : Array (Nat × Operand)} {z : List DV} {l : List (Nat × Nat × X)}
    (ho : o.op = .build t ps) (hu : P.underlying t = some (.array n e)) (hz : zeroT P t = some z) (hs : sizeT P e = some sz) (hl : partsX ps.toList (fun i => some (i * sz, sz)) = some l)
    (hc : compOp P o.op = .build z l) (h : vop std P o.dst (.build z l) s K) : SemY P o s K [] := by
  obtain ⟨i, v, hi, hv, hzv⟩ := zeroT_spec hz
  simp only [vop] at h
  split at h
  · rename_i l' hl'
    refine sem_pure' fun a w β I F hm he => ?_
    obtain ⟨ys, hy, hf⟩ := fill_ok he hl hl' (zDV_rel hzv)
    refine ⟨.agg ys.toArray, .agg l', fun w' _ => ?_, by simp only [Rel]; exact ⟨ys, rfl, hy⟩, h⟩
    simp only [execOp, ho]
    refine run_v ?_
    simp only [Instr.build, Sem.run_bind, run_zero hi hv, Result.andThen_ok, run_underlying' hu, run_sizeOf hs]
    have hf' : Instr.fill (fun i => some (i * sz, sz)) v.cells (ps.map fun x => (x.1, a.eval x.2)).toList = some ys.toArray := by simpa using hf
    rw [hf']
    rfl
  · exact stuck_ok rfl hc h

theorem repl_length (z : List SV) : ∀ n, (repl z n).length = n * z.length
  | 0 => by simp [repl]
  | n + 1 => by simp [repl, repl_length z n, Nat.succ_mul, Nat.add_comm]

theorem repl_get (z : List SV) : ∀ (n k : Nat), k < n * z.length → lget (repl z n) k = lget z (k % z.length)
  | 0, k, h => by simp at h
  | n + 1, k, h => by
    have ih := repl_get z n
    simp only [lget_eq] at ih ⊢
    simp only [repl]
    rw [Nat.succ_mul] at h
    rcases Nat.lt_or_ge k z.length with h' | h'
    · rw [List.getElem?_append_left h', Nat.mod_eq_of_lt h']
    · rw [List.getElem?_append_right h', ih _ (by omega), Nat.mod_eq_sub_mod h']

theorem ok_buildSlice {P : Program} {o : Oper} {s : St O} {K : St O → Prop} {t e : TypeId} {n sz : Nat} {ps : Array (Nat × Operand)} {z : List DV} {l : List (Nat × Nat × X)}
    (ho : o.op = .buildSlice t n ps) (hu : P.underlying t = some (.slice e)) (hs : sizeT P e = some sz) (hz : zeroT P e = some z) (hl : partsX ps.toList (fun i => some (i * sz, sz)) = some l)
    (hzl : z.length = sz) (hle : n * sz ≤ 16777216) (hn : n ≤ maxN) (hc : compOp P o.op = .mkS sz n z l) (h : vop std P o.dst (.mkS sz n z l) s K) : SemO P o s K := by
  obtain ⟨i, v, hi, hv, hzv⟩ := zeroT_spec hz
  simp only [vop] at h
  split at h
  rotate_left
  · exact stuck_ok rfl hc h
  rename_i l' hl'
  split at h
  rotate_left
  · exact stuck_ok rfl hc h
  · rename_i hall
    refine sem_new h fun a w β I F hm he => ?_
    have hzr : RelL β s.mem.length I w (dvs z) v.cells.toList := zDV_rel hzv
    have hvl : v.cells.size = sz := by rw [← hzl, ← dvs_length, ← hzr.length]; simp
    -- the cells that it begins with
    have h0 : RelL β s.mem.length I w (repl (dvs z) n) (((Array.range (n * sz)).map fun k => (if n * sz = 0 then #[] else v.cells)[k % (if n * sz = 0 then #[] else v.cells).size]!)).toList := by
      refine RelL.of_get (by simp [repl_length, dvs_length, hzl]) fun k sv x h1 h2 => ?_
      have hk : k < n * sz := by
        have := (List.getElem?_eq_some_iff.1 h2).1
        simpa using this
      rw [repl_get _ _ _ (by rw [dvs_length, hzl]; exact hk), dvs_length, hzl] at h1
      obtain ⟨y, hy, hry⟩ := hzr.get h1
      have hk0 : n * sz ≠ 0 := by omega
      have : x = y := by
        have hlt : k % sz < v.cells.size := by
          have := (List.getElem?_eq_some_iff.1 hy).1
          simpa using this
        have hy' : v.cells[k % sz] = y := by simpa [hlt] using hy
        simp [hk, hk0, hvl] at h2
        rw [← h2]
        simp [hy', hlt]
      rw [this]
      exact hry
    obtain ⟨ys, hy, hf⟩ := fill_ok he hl hl' h0
    have hylen : ys.length = n * sz := by
      rw [hy.length]
      have : ∀ (px : List (Nat × Nat × X)) (l1 l2 : List SV), partsV s px l1 = some l2 → l2.length = l1.length := by
        intro px
        induction px with
        | nil => intro l1 l2 h; simp only [partsV, Option.some.injEq] at h; rw [h]
        | cons p r ih =>
          intro l1 l2 h
          simp only [partsV] at h
          split at h
          · split at h
            · rw [ih _ _ h, lputs_length]
            · cases h
          · cases h
      rw [this _ _ _ hl', repl_length, dvs_length, hzl]
    refine ⟨.slice (some ⟨w.heap.size, 0, none⟩) n n, wpush w (.cells ys.toArray e (0, 0)), ⟨w.heap.size, 0, n, n, false, none⟩, fun b => n ≠ 0 ∧ b = w.heap.size, ?_, rfl, rfl, rfl, by simp [wpush], fun b hb => wpush_old hb,
      fun b hb => by obtain ⟨_, rfl⟩ := hb; simp [wpush], wpush_frozen, ?_, ?_⟩
    · simp only [execOp, ho]
      refine run_v ?_
      simp only [Instr.buildSlice, Sem.run_bind, run_underlying' hu, Result.andThen_ok, run_sizeOf hs]
      rw [if_neg (by omega)]
      have hf' : Instr.fill (fun i => some (i * sz, sz)) ((Array.range (n * sz)).map fun k => (if n * sz = 0 then #[] else v.cells)[k % (if n * sz = 0 then #[] else v.cells).size]!)
          (ps.map fun x => (x.1, a.eval x.2)).toList = some ys.toArray := by
        rw [Array.toArray_toList] at hf
        rw [Array.toList_map]
        exact hf
      by_cases h00 : n * sz = 0
      · simp only [if_pos h00] at hf' ⊢
        simp only [Sem.run_bind, Sem.run_pure, Result.andThen_ok]
        rw [hf']
        rfl
      · simp only [if_neg h00] at hf' ⊢
        simp only [Sem.run_bind, Sem.run_pure, Result.andThen_ok, run_zero hi hv]
        rw [hf']
        rfl
    · simp only [CSat, fup_eq]
      refine ⟨trivial, hn, Nat.le_refl _, by simp, ?_⟩
      split
      · rename_i h0; intro b hb; exact hb.1 h0
      · rename_i h0
        refine ⟨fun b => ⟨fun hb => hb.2, fun hb => ⟨h0, hb⟩⟩, ys.toArray, e, wpush_new, by simp [hylen], fun i f hi hf => ?_⟩
        have hmul : (i + 1) * sz ≤ n * sz := Nat.mul_le_mul_right _ hi
        rw [Nat.add_mul] at hmul
        have hlt : i * sz + f < l'.length := by rw [← hy.length, hylen]; omega
        have hg : lget l' (i * sz + f) = some l'[i * sz + f] := by rw [lget_eq]; simp [hlt]
        obtain ⟨x, hx, hrx⟩ := hy.get hg
        refine ⟨x, by simpa using hx, ?_⟩
        simp only [listAt, hg]
        exact ⟨hrx.mono (fun _ hh => fup_lt hh) (Nat.le_succ _) (fun _ h => h) fun k hk => wpush_old (hm.whole k hk), cells_one hall hy x (List.mem_of_getElem? hx)⟩
    · simp only [Rel, fup_eq]
      exact ⟨Nat.lt_succ_self _, by rw [HI.adr_new]⟩

end Go.V
