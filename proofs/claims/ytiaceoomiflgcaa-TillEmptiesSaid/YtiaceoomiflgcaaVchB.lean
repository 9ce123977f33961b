/-
  The conditions suffice: new rows, copies, clearing, appends in place.
-/
import Derived.Test.YtiaceoomiflgcaaVchA
namespace Go.V
variable {O : Type} [Objs O]

/-- The state behind an operation that tells a value, and writes into what is behind one handle. -/
theorem sem_upd {P : Program} {o : Oper} {s : St O} {K : St O → Prop} {hh : Nat} {c c' : Chunk O} {sv : SV} (hc : lget s.mem hh = some c) (hK : K ((s.mset hh c').put o.dst sv))
    (h : ∀ (a : Act) (w : World) (β : Nat → HI) (I : Nat → Prop) (F : Nat → Nat → Prop), MSat β I w F s.mem → RelL β s.mem.length I w s.env a.tmps.toList →
      ∃ v w', (execOp a.eval o).run P w = .ok (.value v) w' ∧ w'.os = w.os ∧ w'.tape = w.tape ∧ w'.output = w.output ∧ w'.heap.size = w.heap.size ∧ (∀ b, ¬ F hh b → w'.heap[b]? = w.heap[b]?) ∧
        (∀ a, w'.frozen? a = w.frozen? a) ∧ CSat β s.mem.length I w' hh (F hh) c' ∧ Rel β s.mem.length I w' sv v) : SemO P o s K := by
  intro fr a w hs next Q hnext
  obtain ⟨hd, β, I, F, hm, he, hw, hb, hn⟩ := hs
  obtain ⟨v, w', hr, hos, ht, hou, hsz, hne, hf, hcs, hv⟩ := h a w β I F hm he
  have hlen : (s.mset hh c').mem.length = s.mem.length := by simp [St.mset, lset_eq]
  have hwI : ∀ k, I k → w'.heap[k]? = w.heap[k]? := fun k hk => hne k fun hF => (hm.old hh k hF).2 hk
  refine wp_val hr (hnext _ _ _ hK (mkSat (s := s.mset hh c') (β := β) (I := I) (F := F) hd ?_ ?_ ?_ hb (by rw [hlen]; exact hn) (by rw [hlen]; exact hv)))
  · exact hm.upd hc hsz hne hcs
  · rw [hlen]
    exact he.mono (fun _ _ => rfl) (Nat.le_refl _) (fun _ h => h) hwI
  · exact hw.trans (Went.upd (G := F hh) hos ht hou hsz hne (fun b hb => ⟨hh, hb⟩) hf)

theorem cpyAt_zero {lo : Nat} {at_ bt : Nat → Nat → SV} : cpyAt lo 0 at_ bt = at_ := by
  funext i f
  unfold cpyAt
  rw [if_neg (by omega)]

theorem row_lt {j k sz f : Nat} (h : j < k) (hf : f < sz) : j * sz + f < k * sz := by
  have : (j + 1) * sz ≤ k * sz := Nat.mul_le_mul_right _ h
  rw [Nat.add_mul] at this
  omega

/-- Of a row's cells, every one is one of some element's. -/
theorem row_all {β : Nat → HI} {N : Nat} {I : Nat → Prop} {w : World} {sz m : Nat} {bt : Nat → Nat → SV} {xs : List Value} (hx : xs.length = m * sz)
    (hat : ∀ i f, i < m → f < sz → ∃ x, xs[i * sz + f]? = some x ∧ Rel β N I w (bt i f) x ∧ x.oneCell' = true) : ∀ v ∈ xs, v.oneCell' = true := by
  intro v hv
  obtain ⟨k, hk, rfl⟩ := List.getElem_of_mem hv
  have hk' := hk
  rw [hx] at hk'
  have hsz0 : 0 < sz := by
    rcases Nat.eq_zero_or_pos sz with h0 | h0
    · subst h0; simp at hk'
    · exact h0
  have hd := (Nat.div_lt_iff_lt_mul hsz0).2 hk'
  obtain ⟨u, hu1, hr1, h1⟩ := hat (k / sz) (k % sz) hd (Nat.mod_lt _ hsz0)
  have hdm : k / sz * sz + k % sz = k := by have := Nat.div_add_mod k sz; rw [Nat.mul_comm] at this; exact this
  rw [hdm, List.getElem?_eq_getElem hk, Option.some.injEq] at hu1
  rw [hu1]
  exact h1

/-- A row is written into a vector of one's own. -/
theorem row_put {P : Program} {β : Nat → HI} {I : Nat → Prop} {w : World} {F : Nat → Nat → Prop} {mem : List (Chunk O)} {hh N sz lo m : Nat} {at_ bt : Nat → Nat → SV} {xs : List Value} (hm : MSat β I w F mem)
    (hch : lget mem hh = some (.vec N sz at_)) (hx : xs.length = m * sz) (hat : ∀ i f, i < m → f < sz → ∃ x, xs[i * sz + f]? = some x ∧ Rel β mem.length I w (bt i f) x ∧ x.oneCell' = true)
    (hle : lo + m ≤ N) (h0 : 0 < m) :
    ∃ w', (storeCells ⟨(β hh).blk, (β hh).off + lo * sz, none⟩ xs).run P w = .ok () w' ∧ w'.os = w.os ∧ w'.tape = w.tape ∧ w'.output = w.output ∧ w'.heap.size = w.heap.size ∧
      (∀ b, ¬ F hh b → w'.heap[b]? = w.heap[b]?) ∧ (∀ a, w'.frozen? a = w.frozen? a) ∧ CSat β mem.length I w' hh (F hh) (Chunk.vec N sz (cpyAt lo m at_ bt) : Chunk O) := by
  have hcs := lget_chunk hm hch
  simp only [CSat] at hcs
  obtain ⟨hl, hn, hcap, hnil, hcs⟩ := hcs
  have hc0 : (β hh).cap ≠ 0 := by omega
  rw [if_neg hc0] at hcs
  obtain ⟨hF, cs, T, hblk, hsz, hrr⟩ := hcs
  have hmul : (lo + m) * sz ≤ (β hh).cap * sz := Nat.mul_le_mul_right _ (by omega)
  rw [Nat.add_mul] at hmul
  have hst := run_storeCells (P := P) (o := (β hh).off + lo * sz) xs 0 w cs hblk (by rw [hx]; omega) (row_all hx hat)
  rw [Nat.add_zero] at hst
  have hFb : F hh (β hh).blk := (hF _).2 rfl
  have hne : ∀ b, ¬ F hh b → (wset w (β hh).blk (.cells (putA cs ((β hh).off + lo * sz) xs) T (0, 0))).heap[b]? = w.heap[b]? := fun b hb => wset_ne fun e => hb (e ▸ hFb)
  have hwI : ∀ k, I k → (wset w (β hh).blk (.cells (putA cs ((β hh).off + lo * sz) xs) T (0, 0))).heap[k]? = w.heap[k]? := fun k hk => hne k fun hFk => (hm.old hh k hFk).2 hk
  refine ⟨_, hst, rfl, rfl, rfl, by simp [wset], hne, wset_frozen hblk, ?_⟩
  simp only [CSat]
  refine ⟨hl, hn, hcap, hnil, ?_⟩
  rw [if_neg hc0]
  refine ⟨hF, _, T, wset_eq (lt_of_get hblk), by rw [putA_size]; exact hsz, fun j f hj hf => ?_⟩
  unfold cpyAt
  split
  · rename_i hjl
    obtain ⟨u, hu1, hr1, h1⟩ := hat (j - lo) f (by omega) hf
    refine ⟨u, ?_, hr1.mono (fun _ _ => rfl) (Nat.le_refl _) (fun _ h => h) hwI, h1⟩
    have hjm := row_lt (show j - lo < m by omega) hf
    have hsplit : j * sz = lo * sz + (j - lo) * sz := by rw [← Nat.add_mul]; congr 1; omega
    have := putA_at xs cs ((β hh).off + lo * sz) ((j - lo) * sz + f) u (by rw [hx]; omega) hu1
    rw [hsplit]
    rw [show (β hh).off + (lo * sz + (j - lo) * sz) + f = (β hh).off + lo * sz + ((j - lo) * sz + f) by omega]
    exact this
  · rename_i hjl
    obtain ⟨u, hu1, hr1, h1⟩ := hrr j f hj hf
    refine ⟨u, ?_, hr1.mono (fun _ _ => rfl) (Nat.le_refl _) (fun _ h => h) hwI, h1⟩
    rw [putA_get]
    · exact hu1
    · rcases Nat.lt_or_ge j lo with h | h
      · have := row_lt h hf
        left; omega
      · have : (lo + m) * sz ≤ j * sz := Nat.mul_le_mul_right _ (by omega)
        rw [Nat.add_mul] at this
        right; rw [hx]; omega

/-- What a part of a vector of one's own is. -/
theorem win_ok {s : St O} {sz : Nat} {sx : SV} {hh lo n N : Nat} {at_ : Nat → Nat → SV} {vx : Value} {β : Nat → HI} {I : Nat → Prop} {w : World} {F : Nat → Nat → Prop} (hm : MSat β I w F s.mem)
    (h : winOf s sz sx = some (hh, lo, n, N, at_)) (hr : Rel β s.mem.length I w sx vx) :
    lget s.mem hh = some (.vec N sz at_) ∧ n ≤ maxN ∧ ∃ a k, vx = .slice a n k ∧ n ≤ k ∧ (0 < n → a = some ⟨(β hh).blk, (β hh).off + lo * sz, none⟩) := by
  unfold winOf at h
  split at h
  · rename_i h'
    split at h
    · rename_i n' sz' at' hch
      split at h
      · rename_i hsz
        subst hsz
        simp only [Option.some.injEq, Prod.mk.injEq] at h
        obtain ⟨rfl, rfl, rfl, rfl, rfl⟩ := h
        simp only [Rel] at hr
        obtain ⟨hl, hn, hcap, hb⟩ := vec_base hm hch
        rw [hl] at hr
        exact ⟨hch, hn, _, _, hr.2, hcap, fun h0 => (hb sz' (by omega)).2⟩
      · cases h
    · cases h
  · rename_i h' lo' n' c sz2
    split at h
    · rename_i N' sz' at' hch
      split at h
      · rename_i hsz
        obtain ⟨rfl, rfl⟩ := hsz
        simp only [Option.some.injEq, Prod.mk.injEq] at h
        obtain ⟨rfl, rfl, rfl, rfl, rfl⟩ := h
        simp only [Rel] at hr
        obtain ⟨_, hn, a, k, hv, hnk, _, _, _, ha⟩ := hr
        exact ⟨hch, hn, a, k, hv, hnk, fun h0 => (ha (by omega)).2⟩
      · cases h
    · cases h
  · cases h

theorem win_src {P : Program} {s : St O} {sz : Nat} {sx : SV} {hh lo n N : Nat} {at_ : Nat → Nat → SV} {vx : Value} {β : Nat → HI} {I : Nat → Prop} {w : World} {F : Nat → Nat → Prop} (hm : MSat β I w F s.mem)
    (h : winOf s sz sx = some (hh, lo, n, N, at_)) (hle : lo + n ≤ N) (hr : Rel β s.mem.length I w sx vx) :
    (∃ base cap, vx = .slice base n cap) ∧ ∃ xs, Src P sz n vx w xs ∧ ∀ i f, i < n → f < sz → ∃ x, xs[i * sz + f]? = some x ∧ Rel β s.mem.length I w (shiftAt std lo at_ i f) x ∧ x.oneCell' = true := by
  obtain ⟨hch, hn, a, k, rfl, hnk, ha⟩ := win_ok hm h hr
  refine ⟨⟨a, k, rfl⟩, ?_⟩
  rcases Nat.eq_zero_or_pos n with h0 | h0
  · subst h0
    refine ⟨[], ⟨by simp, ?_, ?_⟩, fun i f hi => by omega⟩ <;>
    cases a <;> simp [Builtin.firstCells, loadCells, loadCellsFrom]
  · have ha := ha h0
    subst ha
    have hcs := lget_chunk hm hch
    simp only [CSat] at hcs
    obtain ⟨hl, hN, hcap, hnil, hcs⟩ := hcs
    rw [if_neg (by omega)] at hcs
    obtain ⟨hF, cs, T, hblk, hsz, hrr⟩ := hcs
    have hmul : (lo + n) * sz ≤ (β hh).cap * sz := Nat.mul_le_mul_right _ (by omega)
    rw [Nat.add_mul] at hmul
    have hs : (β hh).off + lo * sz + n * sz ≤ cs.size := by omega
    refine ⟨(cs.toList.drop ((β hh).off + lo * sz)).take (n * sz), ⟨by simp; omega, loadRow hblk hs, loadRow (w := wdrew w) hblk hs⟩, fun i f hi hf => ?_⟩
    have hlt := row_lt hi hf
    obtain ⟨u, hu1, hr1, h1⟩ := hrr (lo + i) f (by omega) hf
    refine ⟨u, ?_, hr1, h1⟩
    rw [row_get hlt, ← hu1, Nat.add_mul]
    congr 1
    omega

theorem w64a {n : Int} (h : 0 ≤ n ∧ n ≤ (maxN : Int)) : IntKind.i64.wrap n = n := by
  show (if (true && decide (n % (2 ^ 64 : Int) ≥ (2 ^ 63 : Int))) = true then n % (2 ^ 64 : Int) - (2 ^ 64 : Int) else n % (2 ^ 64 : Int)) = _
  simp only [Bool.true_and, decide_eq_true_eq, show (2 : Int) ^ 64 = 18446744073709551616 from by decide, show (2 : Int) ^ 63 = 9223372036854775808 from by decide]
  have : n ≤ 140737488355328 := h.2
  split <;> omega

/-- A row of zero values. -/
theorem zero_row {β : Nat → HI} {N : Nat} {I : Nat → Prop} {w : World} {z : List DV} {v : Value} {sz n : Nat} (hz : zDV v.cells.toList = some z) (hzl : z.length = sz) :
    v.cells.size = sz ∧ ∀ i f, i < n → f < sz → ∃ x, ((Array.range (n * sz)).map fun k => v.cells[k % v.cells.size]!).toList[i * sz + f]? = some x ∧ Rel β N I w (zget z f) x ∧ x.oneCell' = true := by
  have hzr : RelL β N I w (dvs z) v.cells.toList := zDV_rel hz
  have hvl : v.cells.size = sz := by rw [← hzl, ← dvs_length, ← hzr.length]; simp
  refine ⟨hvl, fun i f hi hf => ?_⟩
  have hlt := row_lt hi hf
  have hmod : (i * sz + f) % sz = f := by rw [Nat.mul_comm, Nat.mul_add_mod, Nat.mod_eq_of_lt hf]
  have hzf : f < z.length := by omega
  have hg : lget (dvs z) f = some (.dv z[f]) := by
    have : ∀ (l : List DV) (i : Nat) (h : i < l.length), lget (dvs l) i = some (.dv l[i]) := by
      intro l
      induction l with
      | nil => intro i h; simp at h
      | cons d r ih =>
        intro i h
        cases i with
        | zero => rfl
        | succ i => simp only [dvs, lget]; rw [ih i (by simpa using h)]; rfl
    exact this z f hzf
  obtain ⟨x, hx, hr⟩ := hzr.get hg
  refine ⟨x, ?_, ?_, cell_one (by rfl) hr⟩
  · have hfl : f < v.cells.size := by omega
    have hx' : v.cells[f]? = some x := by simpa using hx
    have hx2 : v.cells[f]! = x := by rw [getElem!_def, hx']
    simp [hlt, hvl, hmod, hx2]
  · unfold zget
    rw [lget_eq]
    simp [hzf]
    exact hr

theorem ok_makeSlice {P : Program} {o : Oper} {s : St O} {K : St O → Prop} {t e : TypeId} {x y : Operand} {sz b : Nat} {z : List DV} (ho : o.op = .makeSlice t x y) (hu : P.underlying t = some (.slice e))
    (hs : sizeT P e = some sz) (hby : bytesT P e = some b) (hz : zeroT P e = some z) (hzl : z.length = sz) (hsz : 0 < sz) (hc : compOp P o.op = .mks sz b z (cX x) (cX y))
    (h : vop std P o.dst (.mks sz b z (cX x) (cX y)) s K) : SemO P o s K := by
  obtain ⟨i, v, hi, hv, hzv⟩ := zeroT_spec hz
  have hbi : i.bytes = b := by simpa [bytesT, hi] using hby
  simp only [vop] at h
  split at h
  · rename_i k1 n k2 c hx1 hy1
    obtain ⟨hok, hK⟩ := h
    have hok : n = c ∧ 0 ≤ n ∧ n ≤ (maxN : Int) ∧ n * (b : Int) ≤ 140737488355328 := hok
    obtain ⟨rfl, h0, hmax, hroom⟩ := hok
    refine sem_new hK fun a w β I F hm he => ?_
    have e1 := ev_rel he x
    have e2 := ev_rel he y
    rw [hx1] at e1
    rw [hy1] at e2
    simp only [Rel, DRel] at e1 e2
    obtain ⟨hvl, hrow⟩ := zero_row (β := fup β s.mem.length ⟨w.heap.size, 0, n.toNat, n.toNat, false, none⟩) (N := s.mem.length + 1) (I := I) (w := wpush w (.cells ((Array.range (n.toNat * sz)).map fun k => v.cells[k % v.cells.size]!) e (0, 0))) (n := n.toNat) hzv hzl
    refine ⟨.slice (some ⟨w.heap.size, 0, none⟩) n.toNat n.toNat, wpush w (.cells ((Array.range (n.toNat * sz)).map fun k => v.cells[k % v.cells.size]!) e (0, 0)), ⟨w.heap.size, 0, n.toNat, n.toNat, false, none⟩, fun b => n.toNat ≠ 0 ∧ b = w.heap.size, ?_, rfl, rfl, rfl, by simp [wpush], fun b hb => wpush_old hb,
      fun b hb => by obtain ⟨_, rfl⟩ := hb; simp [wpush], wpush_frozen, ?_, ?_⟩
    · simp only [execOp, ho, e1, e2]
      refine run_v ?_
      have hti : (typeInfo e).run P w = .ok i w := by simp [typeInfo, hi]
      have hwr := w64a ⟨h0, hmax⟩
      have hnb : ¬ ((b : Int) * n > 2 ^ 48) := by
        have : (b : Int) * n = n * b := Int.mul_comm _ _
        rw [this]
        simp only [show (2 : Int) ^ 48 = 281474976710656 from by decide]
        omega
      have hn0 : ¬ n < 0 := by omega
      have hnb' : ¬ (281474976710656 < (b : Int) * n) := by simpa using hnb
      by_cases h00 : n.toNat * sz = 0
      · have hn00 : n.toNat = 0 := (Nat.mul_eq_zero.1 h00).resolve_right (by omega)
        have hnn : n = 0 := by omega
        subst hnn
        simp [Instr.makeSlice, run_underlying' hu, asInt, asIntOf, hti, hwr, run_askRoom, run_sizeOf hs, newRow, run_newObj, wpush]
        congr 2
        apply Array.ext <;> simp
      · simp [Instr.makeSlice, run_underlying' hu, asInt, asIntOf, hti, hwr, hbi, hn0, hnb', run_askRoom, run_sizeOf hs, newRow, run_newObj, wpush, run_zero hi hv]
        exact fun h => (h00 h).elim
    · simp only [CSat, fup_eq]
      refine ⟨rfl, by show n.toNat ≤ maxN; omega, Nat.le_refl _, by simp, ?_⟩
      split
      · rename_i h00; intro b hb; exact hb.1 h00
      · rename_i h00
        refine ⟨fun b => ⟨fun hb => hb.2, fun hb => ⟨h00, hb⟩⟩, _, e, wpush_new, by simp, fun i f hi hf => ?_⟩
        obtain ⟨x, hx, hr, h1⟩ := hrow i f hi hf
        exact ⟨x, by rw [Array.getElem?_toList] at hx; rw [Nat.zero_add]; exact hx, hr, h1⟩
    · simp only [Rel, fup_eq]
      exact ⟨Nat.lt_succ_self _, by rw [HI.adr_new]⟩
  · exact stuck_ok rfl hc h

/-- The first cells of a source. -/
def Pre (P : Program) (β : Nat → HI) (N : Nat) (I : Nat → Prop) (w : World) (sz m : Nat) (bt : Nat → Nat → SV) (vy : Value) : Prop :=
  (∃ base cap, vy = .slice base m cap) ∧ ∀ k, k ≤ m → ∃ xs : List Value, xs.length = k * sz ∧ (Builtin.firstCells sz k vy).run P w = .ok xs.toArray w ∧
    ∀ i f, i < k → f < sz → ∃ x, xs[i * sz + f]? = some x ∧ Rel β N I w (bt i f) x ∧ x.oneCell' = true

theorem pre_none {P : Program} {β : Nat → HI} {N : Nat} {I : Nat → Prop} {w : World} {sz : Nat} {bt : Nat → Nat → SV} {a : Option Addr} {c : Nat} : Pre P β N I w sz 0 bt (.slice a 0 c) := by
  refine ⟨⟨_, _, rfl⟩, fun k hk => ?_⟩
  obtain rfl : k = 0 := by omega
  refine ⟨[], by simp, ?_, fun i f hi => by omega⟩
  cases a <;> simp [Builtin.firstCells, loadCells, loadCellsFrom]

theorem pre_row {P : Program} {β : Nat → HI} {N : Nat} {I : Nat → Prop} {w : World} {sz m : Nat} {bt : Nat → Nat → SV} {b o c : Nat} {cs : Array Value} {T : TypeId} {fz : Nat × Nat} (hb : w.heap[b]? = some (.cells cs T fz))
    (hs : o + m * sz ≤ cs.size) (hr : ∀ i f, i < m → f < sz → ∃ x, cs[o + i * sz + f]? = some x ∧ Rel β N I w (bt i f) x ∧ x.oneCell' = true) : Pre P β N I w sz m bt (.slice (some ⟨b, o, none⟩) m c) := by
  refine ⟨⟨_, _, rfl⟩, fun k hk => ?_⟩
  have hmul : k * sz ≤ m * sz := Nat.mul_le_mul_right _ hk
  have hs' : o + k * sz ≤ cs.size := by omega
  refine ⟨(cs.toList.drop o).take (k * sz), by simp; omega, loadRow hb hs', fun i f hi hf => ?_⟩
  have hlt := row_lt hi hf
  obtain ⟨u, hu, hr1, h1⟩ := hr i f (by omega) hf
  refine ⟨u, ?_, hr1, h1⟩
  rw [row_get hlt, ← Nat.add_assoc]
  exact hu

theorem pre_app {P : Program} {s : St O} {sz m : Nat} {bt : Nat → Nat → SV} {sy : SV} {vy : Value} {β : Nat → HI} {I : Nat → Prop} {w : World} {F : Nat → Nat → Prop} (hm : MSat β I w F s.mem)
    (h : appSrc s sz sy = some (m, bt)) (hr : Rel β s.mem.length I w sy vy) : Pre P β s.mem.length I w sz m bt vy := by
  unfold appSrc at h
  split at h
  · simp only [Option.some.injEq, Prod.mk.injEq] at h
    obtain ⟨rfl, rfl⟩ := h
    simp only [Rel, DRel] at hr
    subst hr
    exact pre_none
  · simp only [Option.some.injEq, Prod.mk.injEq] at h
    obtain ⟨rfl, rfl⟩ := h
    simp only [Rel, DRel] at hr
    obtain ⟨a, rfl⟩ := hr
    exact pre_none
  · split at h
    · rename_i n sz' at_ hsz
      subst hsz
      simp only [Option.some.injEq, Prod.mk.injEq] at h
      obtain ⟨rfl, rfl⟩ := h
      simp only [Rel, DRel] at hr
      obtain ⟨a, cap, rfl, hn, _, hr⟩ := hr
      rcases Nat.eq_zero_or_pos n with h0 | h0
      · subst h0; exact pre_none
      · obtain ⟨b, o, cs, T, fz, rfl, hI, hb, hs, hr⟩ := hr h0
        refine pre_row hb hs fun i f hi hf => ?_
        have hlt := row_lt hi hf
        have hlt2 : o + i * sz' + f < cs.size := by omega
        have := hr i f hi hf
        have h2 : Rel β s.mem.length I w (dvAt at_ i f) cs[o + i * sz' + f] := by simpa [Rel, dvAt, hlt2] using this
        exact ⟨_, by simp [hlt2], h2, cell_one (by rfl) h2⟩
    · cases h
  · rename_i hh
    split at h
    · rename_i n sz' at_ hch
      split at h
      · rename_i hsz
        subst hsz
        simp only [Option.some.injEq, Prod.mk.injEq] at h
        obtain ⟨rfl, rfl⟩ := h
        simp only [Rel] at hr
        obtain ⟨hl, hn, hcap, hbase⟩ := vec_base hm hch
        rw [hl] at hr
        rcases Nat.eq_zero_or_pos n with h0 | h0
        · subst h0; rw [hr.2]; exact pre_none
        · rw [hr.2, (hbase sz' (by omega)).2]
          have hcs := lget_chunk hm hch
          simp only [CSat] at hcs
          obtain ⟨_, _, _, _, hcs⟩ := hcs
          rw [if_neg (by omega)] at hcs
          obtain ⟨hF, cs, T, hblk, hsz, hrr⟩ := hcs
          have hmul : n * sz' ≤ (β hh).cap * sz' := Nat.mul_le_mul_right _ hcap
          refine pre_row hblk (by omega) fun i f hi hf => ?_
          rw [Nat.zero_mul, Nat.add_zero]
          exact hrr i f hi hf
      · cases h
    · cases h
  · cases h

theorem pre_win {P : Program} {s : St O} {sz : Nat} {sx : SV} {hh lo n N : Nat} {at_ : Nat → Nat → SV} {vx : Value} {β : Nat → HI} {I : Nat → Prop} {w : World} {F : Nat → Nat → Prop} (hm : MSat β I w F s.mem)
    (h : winOf s sz sx = some (hh, lo, n, N, at_)) (hle : lo + n ≤ N) (hr : Rel β s.mem.length I w sx vx) : Pre P β s.mem.length I w sz n (shiftAt std lo at_) vx := by
  obtain ⟨hch, hn, a, k, rfl, hnk, ha⟩ := win_ok hm h hr
  rcases Nat.eq_zero_or_pos n with h0 | h0
  · subst h0; exact pre_none
  · have ha := ha h0
    subst ha
    have hcs := lget_chunk hm hch
    simp only [CSat] at hcs
    obtain ⟨hl, hN, hcap, hnil, hcs⟩ := hcs
    rw [if_neg (by omega)] at hcs
    obtain ⟨hF, cs, T, hblk, hsz, hrr⟩ := hcs
    have hmul : (lo + n) * sz ≤ (β hh).cap * sz := Nat.mul_le_mul_right _ (by omega)
    rw [Nat.add_mul] at hmul
    refine pre_row hblk (by omega) fun i f hi hf => ?_
    obtain ⟨u, hu1, hr1, h1⟩ := hrr (lo + i) f (by omega) hf
    refine ⟨u, ?_, hr1, h1⟩
    rw [← hu1, Nat.add_mul]
    congr 1
    omega

omit [Objs O] in
theorem winOf_chunk {s : St O} {sz : Nat} {sx : SV} {hh lo n N : Nat} {at_ : Nat → Nat → SV} (hw : winOf s sz sx = some (hh, lo, n, N, at_)) : lget s.mem hh = some (.vec N sz at_) := by
  unfold winOf at hw
  split at hw
  · split at hw
    · split at hw
      · rename_i hsz
        subst hsz
        simp only [Option.some.injEq, Prod.mk.injEq] at hw
        obtain ⟨rfl, rfl, rfl, rfl, rfl⟩ := hw
        assumption
      · cases hw
    · cases hw
  · split at hw
    · split at hw
      · rename_i hsz
        obtain ⟨rfl, rfl⟩ := hsz
        simp only [Option.some.injEq, Prod.mk.injEq] at hw
        obtain ⟨rfl, rfl, rfl, rfl, rfl⟩ := hw
        assumption
      · cases hw
    · cases hw
  · cases hw

theorem ok_copy {P : Program} {o : Oper} {s : St O} {K : St O → Prop} {c : Call} {t t' e : TypeId} {x y : Operand} {sz : Nat} (ho : o.op = .call c) (hb : c.callee = .builtin .copy) (ht : c.argTypes.toList = [t, t'])
    (hxy : c.args.toList = [x, y]) (hu : P.underlying t = some (.slice e)) (hs : sizeT P e = some sz) (hc : compOp P o.op = .cpy sz (cX x) (cX y)) (h : vop std P o.dst (.cpy sz (cX x) (cX y)) s K) : SemO P o s K := by
  have h1 : c.argTypes = #[t, t'] := by rw [← ht]
  have h2 : c.args = #[x, y] := by rw [← hxy]
  have key : ∀ (hh lo n N m : Nat) (at_ bt : Nat → Nat → SV), winOf s sz (s.ev (cX x)) = some (hh, lo, n, N, at_) → lo + n ≤ N →
      (∀ (β : Nat → HI) (I : Nat → Prop) (w : World) (F : Nat → Nat → Prop) (vy : Value), MSat β I w F s.mem → Rel β s.mem.length I w (s.ev (cX y)) vy → Pre P β s.mem.length I w sz m bt vy) →
      K ((s.mset hh (.vec N sz (cpyAt lo (Nat.min m n) at_ bt))).put o.dst (.dv (.int .i64 ((Nat.min m n : Nat) : Int)))) → SemO P o s K := by
    intro hh lo n N m at_ bt hw hle hsrc hK
    have hch := winOf_chunk hw
    refine sem_upd hch hK fun a w β I F hm he => ?_
    obtain ⟨_, hn, ab, k, hv, hnk, hab⟩ := win_ok hm hw (ev_rel he x)
    obtain ⟨⟨b2, c2, hv2⟩, hpre⟩ := hsrc β I w F _ hm (ev_rel he y)
    obtain ⟨xs, hxl, hfc, hat⟩ := hpre (Nat.min m n) (Nat.min_le_left _ _)
    have rn : ∀ {w' : World}, (∀ q, ab = some q → (storeCells q xs).run P w = .ok () w') → (ab = none → w' = w) → (execOp a.eval o).run P w = .ok (.value (.int .i64 ((Nat.min m n : Nat) : Int))) w' := by
      intro w' hq1 hq2
      have : (Builtin.copy_ #[t, t'] o.type #[a.eval x, a.eval y]).run P w = .ok (.int .i64 ((Nat.min m n : Nat) : Int)) w' := by
        have hl : (Builtin.lenOf (a.eval y)).run P w = .ok m w := by rw [hv2]; rfl
        simp only [Builtin.copy_, List.getElem?_toArray, List.getElem?_cons_zero, List.getElem?_cons_succ, Sem.run_bind, run_underlying' hu, Result.andThen_ok, hv, hl, run_sizeOf hs, hfc]
        cases ab with
        | none => rw [hq2 rfl]; simp [goInt]
        | some q => simp [hq1 q rfl, goInt]
      simp [execOp, ho, resolve, hb, invoke, builtin, h1, h2, this]
    rcases Nat.eq_zero_or_pos (Nat.min m n) with h0 | h0
    · have hxs : xs = [] := List.eq_nil_of_length_eq_zero (by rw [hxl, h0]; simp)
      subst hxs
      refine ⟨_, w, rn (fun q _ => by simp [storeCells]) (fun _ => rfl), rfl, rfl, rfl, rfl, fun _ _ => rfl, fun _ => rfl, ?_, by simp [Rel, DRel]⟩
      rw [h0, cpyAt_zero]
      exact lget_chunk hm hch
    · have hn0 : 0 < n := Nat.lt_of_lt_of_le h0 (Nat.min_le_right _ _)
      have ha := hab hn0
      have hmn : Nat.min m n ≤ n := Nat.min_le_right _ _
      obtain ⟨w', hst, k1, k2, k3, k4, k5, k6, k7⟩ := row_put (P := P) (lo := lo) (m := Nat.min m n) hm hch hxl hat (by omega) h0
      refine ⟨_, w', rn (fun q hq => ?_) (fun hq => ?_), k1, k2, k3, k4, k5, k6, k7, by simp [Rel, DRel]⟩
      · rw [ha] at hq
        cases hq
        exact hst
      · rw [ha] at hq; cases hq
  simp only [vop] at h
  split at h
  · rename_i hh lo n N at_ m bt hw hsrc
    obtain ⟨hle, hK⟩ := h
    exact key hh lo n N m at_ bt hw hle (fun β I w F vy hm hr => pre_app hm hsrc hr) hK
  · rename_i hh lo n N at_ hw hsrc
    split at h
    · rename_i h2' lo2 n2 N2 bt hw2
      obtain ⟨hle, hle2, hK⟩ := h
      exact key hh lo n N n2 at_ _ hw hle (fun β I w F vy hm hr => pre_win hm hw2 hle2 hr) hK
    · exact (stuck_ok rfl hc h).semO
  · exact (stuck_ok rfl hc h).semO

theorem ok_clear {P : Program} {o : Oper} {s : St O} {K : St O → Prop} {c : Call} {t e : TypeId} {x : Operand} {sz : Nat} {z : List DV} (ho : o.op = .call c) (hb : c.callee = .builtin .clear) (ht : c.argTypes.toList = [t])
    (hxy : c.args.toList = [x]) (hu : P.underlying t = some (.slice e)) (hz : zeroT P e = some z) (hzl : z.length = sz) (hc : compOp P o.op = .clr sz z (cX x))
    (h : vop std P o.dst (.clr sz z (cX x)) s K) : SemO P o s K := by
  have h1 : c.argTypes = #[t] := by rw [← ht]
  have h2 : c.args = #[x] := by rw [← hxy]
  obtain ⟨i, v, hi, hv, hzv⟩ := zeroT_spec hz
  have rn : ∀ {a : Act} {w w' : World}, (Builtin.clear_ #[t] o.type #[a.eval x]).run P w = .ok (.tuple #[]) w' → (execOp a.eval o).run P w = .ok (.value (.tuple #[])) w' := by
    intro a w w' hr
    simp [execOp, ho, resolve, hb, invoke, builtin, h1, h2, hr]
  simp only [vop] at h
  split at h
  · rename_i hh lo n N at_ hw
    obtain ⟨hle, hK⟩ := h
    have hle : lo + n ≤ N := hle
    have hch := winOf_chunk hw
    refine sem_upd hch hK fun a w β I F hm he => ?_
    obtain ⟨_, hn, ab, k, hvx, hnk, hab⟩ := win_ok hm hw (ev_rel he x)
    rcases Nat.eq_zero_or_pos n with h0 | h0
    · subst h0
      refine ⟨.tuple #[], w, rn ?_, rfl, rfl, rfl, rfl, fun _ _ => rfl, fun _ => rfl, ?_, by simp only [Rel]; exact ⟨[], rfl, rfl⟩⟩
      · rw [hvx]
        cases ab <;> simp [Builtin.clear_, run_underlying' hu]
      · rw [cpyAt_zero]
        exact lget_chunk hm hch
    · have ha := hab h0
      obtain ⟨hvl, hrow⟩ := zero_row (β := β) (N := s.mem.length) (I := I) (w := w) (n := n) hzv hzl
      have hxl : ((Array.range (n * sz)).map fun k => v.cells[k % v.cells.size]!).toList.length = n * sz := by simp
      obtain ⟨w', hst, k1, k2, k3, k4, k5, k6, k7⟩ := row_put (P := P) (bt := fun _ f => zget z f) hm hch hxl hrow hle h0
      refine ⟨.tuple #[], w', rn ?_, k1, k2, k3, k4, k5, k6, k7, by simp only [Rel]; exact ⟨[], rfl, rfl⟩⟩
      rw [hvx, ha]
      obtain ⟨n', rfl⟩ : ∃ n', n = n' + 1 := ⟨n - 1, by omega⟩
      simp only [Builtin.clear_, List.getElem?_toArray, List.getElem?_cons_zero, Sem.run_bind, run_underlying' hu, Result.andThen_ok, run_zero hi hv, Builtin.zeroCells, hvl] at hst ⊢
      rw [hst]
      rfl
  · split at h
    · rename_i hx
      intro fr a w hs next Q hnext
      obtain ⟨hd, β, I, F, hm, he, hw, hb', hn⟩ := hs
      have e1 := ev_rel he x
      rw [hx] at e1
      simp only [Rel, DRel] at e1
      refine wp_val (v := .tuple #[]) (w' := w) (rn (by rw [e1]; simp [Builtin.clear_, run_underlying' hu])) (hnext _ _ _ h (mkSat hd hm he hw hb' hn ?_))
      simp only [Rel]; exact ⟨[], rfl, rfl⟩
    · rename_i hx
      intro fr a w hs next Q hnext
      obtain ⟨hd, β, I, F, hm, he, hw, hb', hn⟩ := hs
      have e1 := ev_rel he x
      rw [hx] at e1
      simp only [Rel, DRel] at e1
      obtain ⟨q, e1⟩ := e1
      refine wp_val (v := .tuple #[]) (w' := w) (rn (by rw [e1]; cases q <;> simp [Builtin.clear_, run_underlying' hu])) (hnext _ _ _ h (mkSat hd hm he hw hb' hn ?_))
      simp only [Rel]; exact ⟨[], rfl, rfl⟩
    · exact (stuck_ok rfl hc h).semO

/-- An append that finds room in a vector of one's own. -/
theorem app_win {P : Program} {o : Oper} {s : St O} {K : St O → Prop} {c : Call} {t t' e e' : TypeId} {x y : Operand} {sz m n lo N hh : Nat} {at_ bt : Nat → Nat → SV} (ho : o.op = .call c)
    (hb : c.callee = .builtin .append) (ht : c.argTypes.toList = [t, t']) (hxy : c.args.toList = [x, y]) (hu : P.underlying t = some (.slice e)) (hu' : P.underlying t' = some (.slice e'))
    (hs : sizeT P e = some sz)
    (hsrc : ∀ (β : Nat → HI) (I : Nat → Prop) (w : World) (F : Nat → Nat → Prop) (vy : Value), MSat β I w F s.mem → Rel β s.mem.length I w (s.ev (cX y)) vy →
      (∃ base cap, vy = .slice base m cap) ∧ ∃ xs, Src P sz m vy w xs ∧ ∀ i f, i < m → f < sz → ∃ x, xs[i * sz + f]? = some x ∧ Rel β s.mem.length I w (bt i f) x ∧ x.oneCell' = true)
    (hch : lget s.mem hh = some (.vec N sz at_)) (hx0 : s.ev (cX x) = .win hh lo n none sz) (hle : lo + n + m ≤ N)
    (hK : K ((s.mset hh (.vec N sz (cpyAt (lo + n) m at_ bt))).put o.dst (.win hh lo (n + m) none sz))) : SemO P o s K := by
  refine sem_upd hch hK fun a w β I F hm he => ?_
  obtain ⟨hsl, xs, hx, hat⟩ := hsrc β I w F _ hm (ev_rel he y)
  have hrx := ev_rel he x
  rw [hx0] at hrx
  simp only [Rel] at hrx
  obtain ⟨hN, hn, ab, k, hv, hnk, hlk, _, hkn, hab⟩ := hrx
  have hk := hkn trivial
  obtain ⟨hlen, hNm, hcap, _⟩ := vec_base hm hch
  have hres : ∀ w', Rel β s.mem.length I w' (.win hh lo (n + m) none sz) (.slice ab (n + m) k) := by
    intro w'
    simp only [Rel]
    exact ⟨hN, by omega, ab, k, rfl, by omega, hlk, by simp, fun _ => hk, hab⟩
  rcases Nat.eq_zero_or_pos m with h0 | h0
  · subst h0
    have hxs : xs = [] := List.eq_nil_of_length_eq_zero (by rw [hx.1]; simp)
    subst hxs
    have hr := run_append_room (P := P) (ty := o.type) (base := ab) (n := n) (cap := k) (w' := w) hu hu' hs hsl hx (by omega) (fun a _ => by simp [storeCells]) (fun _ => rfl)
    refine ⟨.slice ab (n + 0) k, w, ?_, rfl, rfl, rfl, rfl, fun _ _ => rfl, fun _ => rfl, ?_, hres w⟩
    · rw [run_app ho hb ht hxy, hv]
      exact run_v hr
    · rw [cpyAt_zero]
      exact lget_chunk hm hch
  · obtain ⟨hnf, ha⟩ := hab (by omega)
    obtain ⟨w', hst, k1, k2, k3, k4, k5, k6, k7⟩ := row_put (P := P) (lo := lo + n) (m := m) hm hch hx.1 hat (by omega) h0
    have hr := run_append_room (P := P) (ty := o.type) (base := ab) (n := n) (cap := k) (w' := w') hu hu' hs hsl hx (by omega) (fun q hq => by
      rw [ha] at hq
      cases hq
      rw [add_addr, show (β hh).off + lo * sz + n * sz = (β hh).off + (lo + n) * sz by rw [Nat.add_mul]; omega]
      exact hst) (fun hq => by rw [ha] at hq; cases hq)
    refine ⟨.slice ab (n + m) k, w', ?_, k1, k2, k3, k4, k5, k6, k7, hres w'⟩
    rw [run_app ho hb ht hxy, hv]
    exact run_v hr

/-- An append that finds no room behind a part of a vector of one's own. -/
theorem app_wgrow {P : Program} {o : Oper} {s : St O} {K : St O → Prop} {c : Call} {t t' e e' : TypeId} {x y : Operand} {sz b m n lo N hh k : Nat} {at_ bt : Nat → Nat → SV} {z : List DV} (ho : o.op = .call c)
    (hb : c.callee = .builtin .append) (ht : c.argTypes.toList = [t, t']) (hxy : c.args.toList = [x, y]) (hu : P.underlying t = some (.slice e)) (hu' : P.underlying t' = some (.slice e'))
    (hs : sizeT P e = some sz) (hby : bytesT P e = some b) (hz : zeroT P e = some z) (hzl : z.length = sz) (hb1 : 0 < b) (hb2 : b ≤ 65536)
    (hsrc : ∀ (β : Nat → HI) (I : Nat → Prop) (w : World) (F : Nat → Nat → Prop) (vy : Value), MSat β I w F s.mem → Rel β s.mem.length I w (s.ev (cX y)) vy →
      (∃ base cap, vy = .slice base m cap) ∧ ∃ xs, Src P sz m vy w xs ∧ ∀ i f, i < m → f < sz → ∃ x, xs[i * sz + f]? = some x ∧ Rel β s.mem.length I w (bt i f) x ∧ x.oneCell' = true)
    (hch : lget s.mem hh = some (.vec N sz at_)) (hx0 : s.ev (cX x) = .win hh lo n (some k) sz) (hle : lo + n ≤ N) (hk : k < n + m) (hroom : std.room (n + m) b)
    (hK : K ((s.madd (.vec (n + m) sz (appAt std n (shiftAt std lo at_) bt))).put o.dst (.vec s.mem.length))) : SemO P o s K := by
  refine sem_new hK fun a w β I F hm he => ?_
  obtain ⟨hsl, xs, hx, hat⟩ := hsrc β I w F _ hm (ev_rel he y)
  have hroom : n + m ≤ maxN ∧ (n + m) * b ≤ 140737488355328 := hroom
  obtain ⟨i, zv, hi, hzv, hzz⟩ := zeroT_spec hz
  have hzs : zv.cells.size = sz := by
    have := (zDV_rel (β := β) (N := 0) (I := I) (w := w) hzz).length
    rw [dvs_length, hzl] at this
    simpa using this
  have hbi : i.bytes = b := by simpa [bytesT, hi] using hby
  have hrx := ev_rel he x
  have hwo : winOf s sz (s.ev (cX x)) = some (hh, lo, n, N, at_) := by rw [hx0]; simp [winOf, hch]
  obtain ⟨⟨base, cap, hv⟩, os, hos, hat0⟩ := win_src (P := P) hm hwo hle hrx
  rw [hx0] at hrx
  simp only [Rel] at hrx
  obtain ⟨_, _, ab, k', hv', _, _, hkk, _, _⟩ := hrx
  have hk' := hkk k rfl
  rw [hv'] at hv
  cases hv
  rw [hv'] at hos
  obtain ⟨nc, rest, hnc, hrest, hr⟩ := run_append_grow (P := P) (ty := o.type) hu hu' hs hi hbi hzv hsl hx hos (by omega) hroom.2 hb1 hb2
  rw [hzs] at hrest
  have hcm : (n + m) * sz + (nc - (n + m)) * sz = nc * sz := by rw [← Nat.add_mul]; congr 1; omega
  rw [Nat.add_mul] at hcm
  refine ⟨.slice (some ⟨w.heap.size, 0, none⟩) (n + m) nc, wpush (wdrew w) (.cells (os ++ xs ++ rest).toArray e (0, 0)), ⟨w.heap.size, 0, n + m, nc, false, none⟩, fun k => k = w.heap.size, ?_, rfl, rfl, rfl, by simp [wpush, wdrew], fun k hk => wgrow_old hk,
    fun k hk => by subst hk; simp [wpush, wdrew], fun k => wpush_frozen (w := wdrew w) k, ?_, ?_⟩
  · rw [run_app ho hb ht hxy, hv']
    exact run_v hr
  · simp only [CSat, fup_eq]
    refine ⟨trivial, hroom.1, hnc, by simp, ?_⟩
    rw [if_neg (by omega)]
    refine ⟨fun _ => trivial, _, e, wgrow_new, by simp [hx.1, hos.1, hrest]; omega, fun j f hj hf => ?_⟩
    obtain ⟨u, hu1, hr1, h1⟩ := xs_at (rest := rest) hos.1 hx.1 hat0 hat j f hj hf
    exact ⟨u, by simpa using hu1, hr1.mono (fun _ hh => fup_lt hh) (Nat.le_succ _) (fun _ h => h) fun k hk => wgrow_old (hm.whole k hk), h1⟩
  · simp only [Rel, fup_eq]
    exact ⟨Nat.lt_succ_self _, by rw [HI.adr_new]⟩

theorem ok_app {P : Program} {o : Oper} {s : St O} {K : St O → Prop} {c : Call} {t t' e e' : TypeId} {x y : Operand} {sz b : Nat} {z : List DV} (ho : o.op = .call c)
    (hb : c.callee = .builtin .append) (ht : c.argTypes.toList = [t, t']) (hxy : c.args.toList = [x, y]) (hu : P.underlying t = some (.slice e)) (hu' : P.underlying t' = some (.slice e'))
    (hs : sizeT P e = some sz) (hby : bytesT P e = some b) (hz : zeroT P e = some z) (hzl : z.length = sz) (hb1 : 0 < b) (hb2 : b ≤ 65536) (hc : compOp P o.op = .app sz b (cX x) (cX y))
    (h : vop std P o.dst (.app sz b (cX x) (cX y)) s K) : SemO P o s K := by
  have sA : ∀ {m : Nat} {bt : Nat → Nat → SV}, appSrc s sz (s.ev (cX y)) = some (m, bt) → ∀ (β : Nat → HI) (I : Nat → Prop) (w : World) (F : Nat → Nat → Prop) (vy : Value), MSat β I w F s.mem → Rel β s.mem.length I w (s.ev (cX y)) vy →
      (∃ base cap, vy = .slice base m cap) ∧ ∃ xs, Src P sz m vy w xs ∧ ∀ i f, i < m → f < sz → ∃ x, xs[i * sz + f]? = some x ∧ Rel β s.mem.length I w (bt i f) x ∧ x.oneCell' = true :=
    fun hsrc β I w F vy hm hr => src_ok hm hsrc hr
  have sW : ∀ {hh lo n N : Nat} {at_ : Nat → Nat → SV}, winOf s sz (s.ev (cX y)) = some (hh, lo, n, N, at_) → lo + n ≤ N → ∀ (β : Nat → HI) (I : Nat → Prop) (w : World) (F : Nat → Nat → Prop) (vy : Value), MSat β I w F s.mem →
      Rel β s.mem.length I w (s.ev (cX y)) vy → (∃ base cap, vy = .slice base n cap) ∧ ∃ xs, Src P sz n vy w xs ∧ ∀ i f, i < n → f < sz → ∃ x, xs[i * sz + f]? = some x ∧ Rel β s.mem.length I w (shiftAt std lo at_ i f) x ∧ x.oneCell' = true :=
    fun hw hle β I w F vy hm hr => win_src hm hw hle hr
  simp only [vop] at h
  split at h
  · rename_i m bt hx hsrc
    exact app_first ho hb ht hxy hu hu' hs hby hz hzl hb1 hb2 (sA hsrc) h.h (.inl hx) h.k
  · rename_i m bt hx hsrc
    exact app_first ho hb ht hxy hu hu' hs hby hz hzl hb1 hb2 (sA hsrc) h.h (.inr hx) h.k
  · rename_i hh m bt hx hsrc
    split at h
    · rename_i n sz' at_ hch
      split at h
      · rename_i hsz
        subst hsz
        exact app_own ho hb ht hxy hu hu' hs hby hz hzl hb1 hb2 hsrc hch hx h.h h.k
      · exact (stuck_ok rfl hc h).semO
    · exact (stuck_ok rfl hc h).semO
  · rename_i hh lo n sz2 m bt hx hsrc
    split at h
    · rename_i N sz' at_ hch
      split at h
      · rename_i hsz
        obtain ⟨rfl, rfl⟩ := hsz
        exact app_win ho hb ht hxy hu hu' hs (sA hsrc) hch hx h.h h.k
      · exact (stuck_ok rfl hc h).semO
    · exact (stuck_ok rfl hc h).semO
  · rename_i hh lo n k sz2 m bt hx hsrc
    split at h
    · rename_i N sz' at_ hch
      split at h
      · rename_i hsz
        obtain ⟨rfl, rfl⟩ := hsz
        exact app_wgrow ho hb ht hxy hu hu' hs hby hz hzl hb1 hb2 (sA hsrc) hch hx h.h h.k.h h.k.k.h h.k.k.k
      · exact (stuck_ok rfl hc h).semO
    · exact (stuck_ok rfl hc h).semO
  · rename_i x' hsrc hx
    split at h
    · rename_i hh lo2 n2 N2 bt hw hx2
      exact app_first ho hb ht hxy hu hu' hs hby hz hzl hb1 hb2 (sW hw h.h) h.k.h (.inl hx2) h.k.k
    · rename_i hh lo2 n2 N2 bt hw hx2
      exact app_first ho hb ht hxy hu hu' hs hby hz hzl hb1 hb2 (sW hw h.h) h.k.h (.inr hx2) h.k.k
    · rename_i hh2 lo2 n2 N2 bt hh lo n sz2 hw hx2
      split at h
      · rename_i N sz' at_ hch
        split at h
        · rename_i hsz
          obtain ⟨rfl, rfl⟩ := hsz
          exact app_win ho hb ht hxy hu hu' hs (sW hw h.h) hch hx2 h.k.h h.k.k
        · exact (stuck_ok rfl hc h).semO
      · exact (stuck_ok rfl hc h).semO
    · exact (stuck_ok rfl hc h).semO
  · exact (stuck_ok rfl hc h).semO

end Go.V
