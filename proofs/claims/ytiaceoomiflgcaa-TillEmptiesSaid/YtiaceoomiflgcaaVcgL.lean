/-
  The conditions suffice: append, carried out.
-/
import Derived.Test.YtiaceoomiflgcaaVcgK
namespace Go.V
variable {O : Type} [Objs O]

theorem growBy_le (n : Nat) : ∀ r c, Builtin.growBy n r c ≤ max c (n + (n + 768) / 4)
  | 0, c => by simp only [Builtin.growBy]; omega
  | r + 1, c => by
    simp only [Builtin.growBy]
    split
    · omega
    · have := growBy_le n r (c + (c + 768) / 4)
      omega

theorem nsc_le {n c b : Nat} (hc : c < n) (hb : b ≤ 65536) (hn : n * b ≤ 140737488355328) : Builtin.nextslicecap n c * b ≤ 2 ^ 48 := by
  unfold Builtin.nextslicecap
  split
  · omega
  · split
    · have : 2 * c * b ≤ 2 * n * b := Nat.mul_le_mul_right _ (by omega)
      rw [Nat.mul_assoc 2 n b] at this
      omega
    · have h1 := growBy_le n 4 c
      have h2 : Builtin.growBy n 4 c ≤ n + (n + 768) / 4 := by omega
      have h3 : Builtin.growBy n 4 c * b ≤ (n + (n + 768) / 4) * b := Nat.mul_le_mul_right _ h2
      rw [Nat.add_mul] at h3
      have h4 : (n + 768) / 4 * 4 ≤ n + 768 := Nat.div_mul_le_self _ _
      have h5 : (n + 768) / 4 * 4 * b ≤ (n + 768) * b := Nat.mul_le_mul_right _ h4
      rw [Nat.add_mul, Nat.mul_assoc, Nat.mul_comm 4 b, ← Nat.mul_assoc] at h5
      omega

theorem run_append_room {P : Program} {t t' e e' ty : TypeId} {base : Option Addr} {n cap m sz : Nat} {vy : Value} {w w' : World} {xs : List Value} (hu : P.underlying t = some (.slice e))
    (hu' : P.underlying t' = some (.slice e')) (hs : sizeT P e = some sz) (hy : ∃ b c, vy = .slice b m c) (hx : Src P sz m vy w xs) (hle : n + m ≤ cap)
    (hw : ∀ a, base = some a → (storeCells (a.add (n * sz)) xs).run P w = .ok () w') (hw0 : base = none → w' = w) :
    (Builtin.append_ #[t, t'] ty #[.slice base n cap, vy]).run P w = .ok (.slice base (n + m) cap) w' := by
  obtain ⟨b, c, rfl⟩ := hy
  obtain ⟨_, hx, _⟩ := hx
  simp only [Builtin.append_, List.getElem?_toArray, List.getElem?_cons_zero, List.getElem?_cons_succ, Sem.run_bind, run_underlying' hu, run_underlying' hu', Result.andThen_ok, run_sizeOf hs, Sem.run_pure,
    Builtin.lenOf, Bool.false_eq_true, if_false, Bool.not_false, if_true, if_pos hle, hx]
  cases base with
  | none => rw [hw0 rfl]; rfl
  | some a => simp only [Sem.run_bind, hw a rfl, Result.andThen_ok, Sem.run_pure]

theorem run_append_grow {P : Program} {t t' e e' ty : TypeId} {base : Option Addr} {n cap m sz by_ : Nat} {vy : Value} {w : World} {xs os : List Value} {zv : Value} {i : TypeInfo} (hu : P.underlying t = some (.slice e))
    (hu' : P.underlying t' = some (.slice e')) (hs : sizeT P e = some sz) (hi : P.info? e = some i) (hb : i.bytes = by_) (hz : i.zero = some zv) (hy : ∃ b c, vy = .slice b m c) (hx : Src P sz m vy w xs)
    (ho : Src P sz n (.slice base n cap) w os) (hgt : cap < n + m) (hroom : (n + m) * by_ ≤ 140737488355328) (hb1 : 0 < by_) (hb2 : by_ ≤ 65536) :
    ∃ nc rest, n + m ≤ nc ∧ rest.length = (nc - (n + m)) * zv.cells.size ∧ (Builtin.append_ #[t, t'] ty #[.slice base n cap, vy]).run P w =
      .ok (.slice (some ⟨w.heap.size, 0, none⟩) (n + m) nc) (wpush (wdrew w) (.cells (os ++ xs ++ rest).toArray e (0, 0))) := by
  obtain ⟨b, c, rfl⟩ := hy
  let q : Question := .appendCap (n + m) cap e
  let nc := q.cut (w.tape w.drawn q)
  have hnc : n + m ≤ nc := by simp only [nc, q, Question.cut]; omega
  have hti : (typeInfo e).run P w = .ok i w := by simp [typeInfo, hi]
  refine ⟨nc, (Builtin.zeroCells zv.cells (nc - (n + m))).toList, hnc, by simp [Builtin.zeroCells], ?_⟩
  have hcond : ¬ (((n + m : Nat) : Int) > IntKind.i64.max ∧ (False ∨ i.bytes = 0)) := by
    rintro ⟨_, h | h⟩
    · exact h
    · omega
  have hcond2 : ¬ (Builtin.nextslicecap (n + m) cap * i.bytes > 2 ^ 48) := by
    rw [hb]
    exact Nat.not_lt.2 (nsc_le hgt hb2 hroom)
  have hch : (choose q).run P w = .ok nc (wdrew w) := by
    simp [q, Question.forced, nc, wdrew]
  have hti' : (typeInfo e).run P (wdrew w) = .ok i (wdrew w) := by simp [typeInfo, hi]
  simp only [Builtin.append_, List.getElem?_toArray, List.getElem?_cons_zero, List.getElem?_cons_succ, Sem.run_bind, run_underlying' hu, run_underlying' hu', Result.andThen_ok, run_sizeOf hs, Sem.run_pure,
    Builtin.lenOf, Bool.false_eq_true, if_false, Bool.not_false, if_true, if_neg (Nat.not_le.2 hgt), hti]
  rw [if_neg (by simpa using hcond)]
  simp only [Sem.run_bind, hti, Result.andThen_ok]
  rw [if_neg hcond2]
  simp only [Sem.run_bind]
  rw [show (choose (.appendCap (n + m) cap e)).run P w = .ok nc (wdrew w) from hch]
  simp only [Result.andThen_ok, hti', run_askRoom, ho.2.2, hx.2.2, run_zero hi hz, newRow, run_newObj, Sem.run_bind, Sem.run_pure]
  congr 1
  simp only [wpush]
  congr 3
  apply Array.toList_inj.1
  simp

/-- A slice value of one's own, as a source. -/
theorem own_src {P : Program} {s : St O} {hh n sz : Nat} {at_ : Nat → Nat → SV} {vy : Value} {β : Nat → HI} {I : Nat → Prop} {w : World} {F : Nat → Nat → Prop} (hm : MSat β I w F s.mem)
    (hch : lget s.mem hh = some (.vec n sz at_)) (hr : Rel β s.mem.length I w (.vec hh) vy) :
    ∃ xs, Src P sz n vy w xs ∧ ∀ i f, i < n → f < sz → ∃ x, xs[i * sz + f]? = some x ∧ Rel β s.mem.length I w (at_ i f) x ∧ x.oneCell' = true :=
  (src_ok hm (by simp [appSrc, hch]) hr).2

theorem xs_at {β : Nat → HI} {N : Nat} {I : Nat → Prop} {w : World} {n m sz : Nat} {at_ bt : Nat → Nat → SV} {os xs rest : List Value} (ho : os.length = n * sz) (hx : xs.length = m * sz)
    (h1 : ∀ i f, i < n → f < sz → ∃ x, os[i * sz + f]? = some x ∧ Rel β N I w (at_ i f) x ∧ x.oneCell' = true) (h2 : ∀ i f, i < m → f < sz → ∃ x, xs[i * sz + f]? = some x ∧ Rel β N I w (bt i f) x ∧ x.oneCell' = true) :
    ∀ i f, i < n + m → f < sz → ∃ x, (os ++ xs ++ rest)[i * sz + f]? = some x ∧ Rel β N I w (appAt std n at_ bt i f) x ∧ x.oneCell' = true := by
  intro i f hi hf
  unfold appAt
  split
  · rename_i hin
    have hmul : (i + 1) * sz ≤ n * sz := Nat.mul_le_mul_right _ hin
    rw [Nat.add_mul] at hmul
    obtain ⟨x, hx', hr⟩ := h1 i f hin hf
    exact ⟨x, by rw [List.append_assoc, List.getElem?_append_left (by omega)]; exact hx', hr⟩
  · rename_i hin
    have hmul : (i - n + 1) * sz ≤ m * sz := Nat.mul_le_mul_right _ (by omega)
    rw [Nat.add_mul] at hmul
    obtain ⟨x, hx', hr⟩ := h2 (i - n) f (by omega) hf
    have he : i * sz = n * sz + (i - n) * sz := by rw [← Nat.add_mul]; congr 1; omega
    refine ⟨x, ?_, hr⟩
    rw [List.append_assoc, List.getElem?_append_right (by omega), List.getElem?_append_left (by omega), show i * sz + f - os.length = (i - n) * sz + f by omega]
    exact hx'

theorem run_app {P : Program} {ρ : Operand → Value} {o : Oper} {c : Call} {t t' : TypeId} {x y : Operand} {w : World} (ho : o.op = .call c) (hb : c.callee = .builtin .append) (ht : c.argTypes.toList = [t, t'])
    (hx : c.args.toList = [x, y]) : (execOp ρ o).run P w = (do pure (.value (← Builtin.append_ #[t, t'] o.type #[ρ x, ρ y])) : Sem Next).run P w := by
  have h1 : c.argTypes = #[t, t'] := by rw [← ht]
  have h2 : c.args = #[x, y] := by rw [← hx]
  simp [execOp, ho, resolve, hb, invoke, builtin, h1, h2]

theorem wgrow_old {w : World} {o : Obj} {b : Nat} (h : b < w.heap.size) : (wpush (wdrew w) o).heap[b]? = w.heap[b]? := wpush_old (w := wdrew w) h

theorem wgrow_new {w : World} {o : Obj} : (wpush (wdrew w) o).heap[w.heap.size]? = some o := wpush_new (w := wdrew w)

/-- Append to what has no room and no elements. -/
theorem app_first {P : Program} {o : Oper} {s : St O} {K : St O → Prop} {c : Call} {t t' e e' : TypeId} {x y : Operand} {sz b m : Nat} {bt : Nat → Nat → SV} {z : List DV} (ho : o.op = .call c)
    (hb : c.callee = .builtin .append) (ht : c.argTypes.toList = [t, t']) (hxy : c.args.toList = [x, y]) (hu : P.underlying t = some (.slice e)) (hu' : P.underlying t' = some (.slice e'))
    (hs : sizeT P e = some sz) (hby : bytesT P e = some b) (hz : zeroT P e = some z) (hzl : z.length = sz) (hb1 : 0 < b) (hb2 : b ≤ 65536) 
    (hsrc : ∀ (β : Nat → HI) (I : Nat → Prop) (w : World) (F : Nat → Nat → Prop) (vy : Value), MSat β I w F s.mem → Rel β s.mem.length I w (s.ev (cX y)) vy →
      (∃ base cap, vy = .slice base m cap) ∧ ∃ xs, Src P sz m vy w xs ∧ ∀ i f, i < m → f < sz → ∃ x, xs[i * sz + f]? = some x ∧ Rel β s.mem.length I w (bt i f) x ∧ x.oneCell' = true)
    (hroom : std.room m b) (hx0 : s.ev (cX x) = .dv .nils ∨ s.ev (cX x) = .dv .emp) (hK : K ((s.madd (.vec m sz bt)).put o.dst (.vec s.mem.length))) : SemO P o s K := by
  refine sem_new hK fun a w β I F hm he => ?_
  obtain ⟨hsl, xs, hx, hat⟩ := hsrc β I w F _ hm (ev_rel he y)
  have hroom : m ≤ maxN ∧ m * b ≤ 140737488355328 := hroom
  obtain ⟨i, zv, hi, hzv, hzz⟩ := zeroT_spec hz
  have hzs : zv.cells.size = sz := by
    have := (zDV_rel (β := β) (N := 0) (I := I) (w := w) hzz).length
    rw [dvs_length, hzl] at this
    simpa using this
  have hbi : i.bytes = b := by simpa [bytesT, hi] using hby
  obtain ⟨bp, hbase⟩ : ∃ a0 : Option Addr, a.eval x = .slice a0 0 0 := by
    have h1 := ev_rel he x
    rcases hx0 with h0 | h0 <;> rw [h0] at h1 <;> simp only [Rel, DRel] at h1
    · exact ⟨none, h1⟩
    · exact h1
  rcases Nat.eq_zero_or_pos m with h0 | h0
  · subst h0
    have hxs : xs = [] := List.eq_nil_of_length_eq_zero (by rw [hx.1]; simp)
    subst hxs
    have hr := run_append_room (P := P) (ty := o.type) (base := bp) (n := 0) (cap := 0) (w' := w) hu hu' hs hsl hx (by omega) (fun a _ => by simp [storeCells]) (fun _ => rfl)
    refine ⟨.slice bp 0 0, w, ⟨(bp.getD default).block, (bp.getD default).off, 0, 0, bp.isNone, (bp.getD default).spot⟩, fun _ => False, ?_, rfl, rfl, rfl, Nat.le_refl _, fun _ _ => rfl, fun _ h => h.elim, fun _ => rfl, ?_, ?_⟩
    · rw [run_app ho hb ht hxy, hbase]
      exact run_v hr
    · simp only [CSat, fup_eq]
      simp [maxN]
    · simp only [Rel, fup_eq]
      refine ⟨Nat.lt_succ_self _, ?_⟩
      cases bp <;> rfl
  · obtain ⟨nc, rest, hnc, hrest, hr⟩ := run_append_grow (P := P) (ty := o.type) (base := bp) (n := 0) (cap := 0) (os := []) hu hu' hs hi hbi hzv hsl hx ⟨by simp, by cases bp <;> simp [Builtin.firstCells, loadCells, loadCellsFrom], by cases bp <;> simp [Builtin.firstCells, loadCells, loadCellsFrom]⟩
      (by omega) (by rw [Nat.zero_add]; exact hroom.2) hb1 hb2
    simp only [Nat.zero_add, List.nil_append] at hr hnc hrest
    rw [hzs] at hrest
    have hcm : m * sz + (nc - m) * sz = nc * sz := by rw [← Nat.add_mul]; congr 1; omega
    refine ⟨.slice (some ⟨w.heap.size, 0, none⟩) m nc, wpush (wdrew w) (.cells (xs ++ rest).toArray e (0, 0)), ⟨w.heap.size, 0, m, nc, false, none⟩, fun k => k = w.heap.size, ?_, rfl, rfl, rfl, by simp [wpush, wdrew], fun k hk => wgrow_old hk, fun k hk => by subst hk; simp [wpush, wdrew], fun k => wpush_frozen (w := wdrew w) k, ?_, ?_⟩
    · rw [run_app ho hb ht hxy, hbase]
      exact run_v hr
    · simp only [CSat, fup_eq]
      refine ⟨trivial, hroom.1, hnc, by simp, ?_⟩
      rw [if_neg (by omega)]
      refine ⟨fun _ => trivial, _, e, wgrow_new, by simp [hx.1, hrest]; omega, fun j f hj hf => ?_⟩
      obtain ⟨u, hu1, hr1, h1⟩ := hat j f hj hf
      refine ⟨u, ?_, hr1.mono (fun _ hh => fup_lt hh) (Nat.le_succ _) (fun _ h => h) fun k hk => wgrow_old (hm.whole k hk), h1⟩
      have hmul : (j + 1) * sz ≤ m * sz := Nat.mul_le_mul_right _ hj
      rw [Nat.add_mul] at hmul
      rw [Nat.zero_add, List.getElem?_toArray, List.getElem?_append_left (by rw [hx.1]; omega)]
      exact hu1
    · simp only [Rel, fup_eq]
      exact ⟨Nat.lt_succ_self _, by rw [HI.adr_new]⟩

/-- Append to a vector of one's own. -/
theorem app_own {P : Program} {o : Oper} {s : St O} {K : St O → Prop} {c : Call} {t t' e e' : TypeId} {x y : Operand} {sz b m n hh : Nat} {at_ bt : Nat → Nat → SV} {z : List DV} (ho : o.op = .call c)
    (hb : c.callee = .builtin .append) (ht : c.argTypes.toList = [t, t']) (hxy : c.args.toList = [x, y]) (hu : P.underlying t = some (.slice e)) (hu' : P.underlying t' = some (.slice e'))
    (hs : sizeT P e = some sz) (hby : bytesT P e = some b) (hz : zeroT P e = some z) (hzl : z.length = sz) (hb1 : 0 < b) (hb2 : b ≤ 65536) (hsrc : appSrc s sz (s.ev (cX y)) = some (m, bt))
    (hch : lget s.mem hh = some (.vec n sz at_)) (hx0 : s.ev (cX x) = .vec hh)     (hroom : std.room (n + m) b) (hK : K (((s.mset hh .gone).madd (.vec (n + m) sz (appAt std n at_ bt))).put o.dst (.vec s.mem.length))) : SemO P o s K := by
  refine sem_move hch hK fun a w β I F hm he => ?_
  obtain ⟨hsl, xs, hx, hat⟩ := src_ok (P := P) hm hsrc (ev_rel he y)
  have hroom : n + m ≤ maxN ∧ (n + m) * b ≤ 140737488355328 := hroom
  obtain ⟨i, zv, hi, hzv, hzz⟩ := zeroT_spec hz
  have hzs : zv.cells.size = sz := by
    have := (zDV_rel (β := β) (N := 0) (I := I) (w := w) hzz).length
    rw [dvs_length, hzl] at this
    simpa using this
  have hbi : i.bytes = b := by simpa [bytesT, hi] using hby
  have hrx := ev_rel he x
  rw [hx0] at hrx
  obtain ⟨os, hos, hat0⟩ := own_src (P := P) hm hch hrx
  simp only [Rel] at hrx
  have hcs := lget_chunk hm hch
  simp only [CSat] at hcs
  obtain ⟨hl, hn, hcap, hnil, hcs⟩ := hcs
  rw [hl] at hrx
  rw [hrx.2] at hos
  rcases Nat.lt_or_ge (β hh).cap (n + m) with hgt | hle
  · obtain ⟨nc, rest, hnc, hrest, hr⟩ := run_append_grow (P := P) (ty := o.type) hu hu' hs hi hbi hzv hsl hx hos hgt hroom.2 hb1 hb2
    rw [hzs] at hrest
    have hcm : (n + m) * sz + (nc - (n + m)) * sz = nc * sz := by rw [← Nat.add_mul]; congr 1; omega
    rw [Nat.add_mul] at hcm
    refine ⟨.slice (some ⟨w.heap.size, 0, none⟩) (n + m) nc, wpush (wdrew w) (.cells (os ++ xs ++ rest).toArray e (0, 0)), ⟨w.heap.size, 0, n + m, nc, false, none⟩, fun k => k = w.heap.size, ?_, rfl, rfl, rfl, by simp [wpush, wdrew], fun k hk _ => wgrow_old hk,
      fun k hk => .inr (by subst hk; simp [wpush, wdrew]), fun k => wpush_frozen (w := wdrew w) k, ?_, ?_⟩
    · rw [run_app ho hb ht hxy, hrx.2]
      exact run_v hr
    · simp only [CSat, fup_eq]
      refine ⟨trivial, hroom.1, hnc, by simp, ?_⟩
      rw [if_neg (by omega)]
      refine ⟨fun _ => trivial, _, e, wgrow_new, by simp [hx.1, hos.1, hrest]; omega, fun j f hj hf => ?_⟩
      obtain ⟨u, hu1, hr1, h1⟩ := xs_at (rest := rest) hos.1 hx.1 hat0 hat j f hj hf
      exact ⟨u, by simpa using hu1, hr1.mono (fun _ hh => fup_lt hh) (Nat.le_succ _) (fun _ h => h) fun k hk => wgrow_old (hm.whole k hk), h1⟩
    · simp only [Rel, fup_eq]
      exact ⟨Nat.lt_succ_self _, by rw [HI.adr_new]⟩
  · by_cases h0 : (β hh).cap = 0
    · -- no room, and nothing to lay in
      have hm0 : m = 0 := by omega
      have hn0 : n = 0 := by omega
      subst hm0
      subst hn0
      have hxs : xs = [] := List.eq_nil_of_length_eq_zero (by rw [hx.1]; simp)
      subst hxs
      have hr := run_append_room (P := P) (ty := o.type) (base := (β hh).adr) (n := 0) (cap := (β hh).cap) (w' := w) hu hu' hs hsl hx (by omega) (fun a _ => by simp [storeCells]) (fun _ => rfl)
      refine ⟨.slice (β hh).adr 0 (β hh).cap, w, { β hh with len := 0 }, fun _ => False, ?_, rfl, rfl, rfl, Nat.le_refl _, fun _ _ _ => rfl, fun _ h => h.elim, fun _ => rfl, ?_, ?_⟩
      · rw [run_app ho hb ht hxy, hrx.2]
        exact run_v hr
      · simp only [CSat, fup_eq]
        simp [maxN, h0]
      · simp only [Rel, fup_eq]
        exact ⟨Nat.lt_succ_self _, rfl⟩
    · rw [if_neg h0] at hcs
      obtain ⟨hF, cs, T, hblk, hsz, hrr⟩ := hcs
      have hnf : (β hh).nil = false := by
        cases hb : (β hh).nil
        · rfl
        · exact (h0 (hnil hb)).elim
      have hmul : (n + m) * sz ≤ (β hh).cap * sz := Nat.mul_le_mul_right _ hle
      rw [Nat.add_mul] at hmul
      have hone' : ∀ v ∈ xs, v.oneCell' = true := by
        intro v hv
        obtain ⟨k, hk, rfl⟩ := List.getElem_of_mem hv
        have hk' := hk
        rw [hx.1] at hk'
        have hsz0 : 0 < sz := by
          rcases Nat.eq_zero_or_pos sz with h0 | h0
          · subst h0; simp at hk'
          · exact h0
        have hd := (Nat.div_lt_iff_lt_mul hsz0).2 hk'
        obtain ⟨u, hu1, hr1, h1⟩ := hat (k / sz) (k % sz) hd (Nat.mod_lt _ hsz0)
        have hdm : k / sz * sz + k % sz = k := by have := Nat.div_add_mod k sz; rw [Nat.mul_comm] at this; exact this
        rw [hdm, List.getElem?_eq_getElem hk, Option.some.injEq] at hu1
        rw [hu1]
        exact h1
      have hst := run_storeCells (P := P) (o := (β hh).off + n * sz) xs 0 w cs hblk (by rw [hx.1]; omega) hone'
      rw [Nat.add_zero] at hst
      have hr := run_append_room (P := P) (ty := o.type) (base := some ⟨(β hh).blk, (β hh).off, none⟩) (n := n) (cap := (β hh).cap) hu hu' hs hsl hx hle (fun a ha => by
        simp only [Option.some.injEq] at ha
        subst ha
        rw [add_addr]
        exact hst) (fun h => by cases h)
      have hFb : F hh (β hh).blk := (hF _).2 rfl
      have hwI : ∀ k, I k → (wset w (β hh).blk (.cells (putA cs ((β hh).off + n * sz) xs) T (0, 0))).heap[k]? = w.heap[k]? := fun k hk => wset_ne fun e => (hm.old hh k ((hF k).2 e)).2 hk
      refine ⟨.slice (some ⟨(β hh).blk, (β hh).off, none⟩) (n + m) (β hh).cap, wset w (β hh).blk (.cells (putA cs ((β hh).off + n * sz) xs) T (0, 0)), { β hh with len := n + m }, fun k => k = (β hh).blk, ?_, rfl, rfl, rfl, by simp [wset], fun k hk hk' => wset_ne fun e => hk' (e ▸ hFb), fun k hk => .inl (hk ▸ hFb), wset_frozen hblk, ?_, ?_⟩
      · rw [run_app ho hb ht hxy, hrx.2, HI.adr_some hnf h0]
        exact run_v hr
      · simp only [CSat, fup_eq]
        refine ⟨trivial, hroom.1, hle, fun h => (h0 (hnil h)).elim, ?_⟩
        rw [if_neg h0]
        refine ⟨fun _ => trivial, _, T, wset_eq (lt_of_get hblk), by rw [putA_size]; exact hsz, fun j f hj hf => ?_⟩
        have hjn : ∀ j k, j < k → f < sz → j * sz + f < k * sz := fun j k hjk hf => by
          have : (j + 1) * sz ≤ k * sz := Nat.mul_le_mul_right _ hjk
          rw [Nat.add_mul] at this
          omega
        unfold appAt
        split
        · rename_i hjn'
          obtain ⟨u, hu1, hr1, h1⟩ := hrr j f hjn' hf
          have := hjn j n hjn' hf
          exact ⟨u, by rw [putA_get _ _ _ _ (.inl (by omega))]; exact hu1, hr1.mono (fun _ hh => fup_lt hh) (Nat.le_succ _) (fun _ h => h) hwI, h1⟩
        · rename_i hjn'
          obtain ⟨u, hu1, hr1, h1⟩ := hat (j - n) f (by omega) hf
          refine ⟨u, ?_, hr1.mono (fun _ hh => fup_lt hh) (Nat.le_succ _) (fun _ h => h) hwI, h1⟩
          have hjm := hjn (j - n) m (by omega) hf
          have hsplit : j * sz = n * sz + (j - n) * sz := by rw [← Nat.add_mul]; congr 1; omega
          have := putA_at xs cs ((β hh).off + n * sz) ((j - n) * sz + f) u (by rw [hx.1]; omega) hu1
          rw [hsplit]
          rw [show (β hh).off + (n * sz + (j - n) * sz) + f = (β hh).off + n * sz + ((j - n) * sz + f) by omega]
          exact this
      · simp only [Rel, fup_eq]
        exact ⟨Nat.lt_succ_self _, by rw [HI.adr_some (by exact hnf) (by exact h0)]⟩

end Go.V
