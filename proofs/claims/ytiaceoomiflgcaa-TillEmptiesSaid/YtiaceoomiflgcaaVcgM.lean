/-
  The conditions suffice: slice expressions, and calls.
-/
import Derived.Test.YtiaceoomiflgcaaVcgL
namespace Go.V
variable {O : Type}

theorem evO_rel {s : St O} {a : Act} {β : Nat → HI} {N : Nat} {I : Nat → Prop} {w : World} (h : RelL β N I w s.env a.tmps.toList) {lo : Option Operand} {k : IntKind} {n : Int}
    (hl : evO s (lo.map cX) = some (.dv (.int k n))) : ∃ x, lo = some x ∧ a.eval x = .int k n := by
  cases lo with
  | none => simp [evO] at hl
  | some x =>
    simp only [Option.map_some, evO, Option.some.injEq] at hl
    have := ev_rel h x
    rw [hl] at this
    exact ⟨x, rfl, by simpa only [Rel, DRel] using this⟩

theorem bnd_rel {s : St O} {a : Act} {β : Nat → HI} {N : Nat} {I : Nat → Prop} {w : World} (h : RelL β N I w s.env a.tmps.toList) {lo : Option Operand} {d n : Int}
    (hl : bnd d (evO s (lo.map cX)) = some n) : (lo = none ∧ n = d) ∨ ∃ x k, lo = some x ∧ a.eval x = .int k n := by
  cases lo with
  | none => left; simpa [evO, bnd, eq_comm] using hl
  | some x =>
    right
    have := ev_rel h x
    simp only [Option.map_some, evO] at hl
    unfold bnd at hl
    split at hl
    · rename_i h0; cases h0
    · rename_i k m h0
      simp only [Option.some.injEq] at h0 hl
      rw [h0] at this
      subst hl
      exact ⟨x, k, rfl, by simpa only [Rel, DRel] using this⟩
    · cases hl

theorem run_bound {P : Program} {w : World} {k : IntKind} {i : Int} {y : Nat} {c : BoundsCode} (h : 0 ≤ i ∧ i ≤ y) : (Instr.sliceBound (.int k i) y c).run P w = .ok i.toNat w := by
  simp [Instr.sliceBound, asIntOf, h]

/-- The bounds without a third index. -/
theorem run_bounds {P : Program} {w : World} {b : Bool} {len cap : Nat} {lo hi : Option Value} {l h : Int} (hl : (lo = none ∧ l = 0) ∨ ∃ k, lo = some (.int k l)) (hh : (hi = none ∧ h = len) ∨ ∃ k, hi = some (.int k h))
    (hb : 0 ≤ l ∧ l ≤ h ∧ h ≤ len) (hlc : len ≤ cap) : (Instr.sliceBounds b len cap lo hi none).run P w = .ok (l.toNat, h.toNat, cap) w := by
  have e1 : 0 ≤ h ∧ h ≤ (cap : Int) := by omega
  have e2 : 0 ≤ l ∧ l ≤ (h.toNat : Int) := by omega
  have e3 : 0 ≤ l ∧ l ≤ (len : Int) := by omega
  rcases hl with ⟨rfl, rfl⟩ | ⟨k, rfl⟩ <;> rcases hh with ⟨rfl, rfl⟩ | ⟨k', rfl⟩
  · simp [Instr.sliceBounds]
  · simp [Instr.sliceBounds, run_bound e1]
  · simp [Instr.sliceBounds, run_bound e3]
  · simp [Instr.sliceBounds, run_bound e1, run_bound e2]

theorem run_sliceAt {P : Program} {t : TypeId} {d : TypeDesc} {v : Value} {lo hi mx : Option Value} {w : World} (hu : P.underlying t = some d) (hd : ∀ n e, d ≠ .array n e) :
    (Instr.sliceAt t v lo hi mx).run P w = (Instr.slice t v lo hi mx).run P w := by
  cases d with
  | array n e => exact (hd n e rfl).elim
  | _ => simp [Instr.sliceAt, run_underlying' hu]

theorem optVal {s : St O} {a : Act} {β : Nat → HI} {N : Nat} {I : Nat → Prop} {w : World} (h : RelL β N I w s.env a.tmps.toList) {lo : Option Operand} {d n : Int}
    (hl : bnd d (evO s (lo.map cX)) = some n) : (lo.map a.eval = none ∧ n = d) ∨ ∃ k, lo.map a.eval = some (.int k n) := by
  rcases bnd_rel h hl with ⟨rfl, h⟩ | ⟨x, k, rfl, h⟩
  · exact .inl ⟨rfl, h⟩
  · exact .inr ⟨k, by simp [h]⟩

variable [Objs O]

theorem ok_ssl {P : Program} {o : Oper} {s : St O} {K : St O → Prop} {t : TypeId} {x : Operand} {lo hi : Option Operand} (ho : o.op = .slice t x lo hi none)
    (hu : P.underlying t = some .string) (hc : compOp P o.op = .ssl (cX x) (lo.map cX) (hi.map cX)) (h : vop std P o.dst (.ssl (cX x) (lo.map cX) (hi.map cX)) s K) : SemY P o s K [] := by
  simp only [vop] at h
  split at h
  · rename_i b hx
    split at h
    · rename_i l u hl hu'
      obtain ⟨hb, h⟩ := h
      have hb : 0 ≤ l ∧ l ≤ u ∧ u ≤ (b.size : Int) ∧ _ := hb
      refine sem_pure _ h fun a w β I F hm he => ⟨.string (b.extract l.toNat u.toNat), fun w' _ => ?_, by simp [Rel, DRel, std]⟩
      have h1 := ev_rel he x
      rw [hx] at h1
      simp only [Rel, DRel] at h1
      simp only [execOp, ho, h1]
      refine run_v ?_
      rw [run_sliceAt hu (by simp)]
      have hbd := run_bounds (P := P) (w := w') (b := false) (len := b.size) (cap := b.size) (optVal he hl) (optVal he hu') ⟨hb.1, hb.2.1, hb.2.2.1⟩ (Nat.le_refl _)
      simp [Instr.slice, run_underlying' hu, hbd]
    · exact stuck_ok rfl hc h
  · exact stuck_ok rfl hc h

/-- A part of a part of a vector. -/
theorem win_part {β : Nat → HI} {N : Nat} {I : Nat → Prop} {w : World} {h lo n k l u m sz : Nat} {a : Option Addr} {c : Option Nat} (hN : h < N) (hn : u - l ≤ maxN) (hlk : lo + k ≤ (β h).cap)
    (ha : 0 < k → (β h).nil = false ∧ a = some ⟨(β h).blk, (β h).off + lo * sz, none⟩) (hlu : l ≤ u) (hum : u ≤ m) (hmk : m ≤ k) (hc : ∀ j, c = some j → m - l = j) (hcn : c = none → lo + k = (β h).cap ∧ m = k)
    (e : n = lo + l) : Rel β N I w (.win h n (u - l) c sz) (.slice (if m = l then a else a.map (·.add (l * sz))) (u - l) (m - l)) := by
  subst e
  simp only [Rel]
  refine ⟨hN, hn, _, _, rfl, by omega, by omega, fun j hj => hc j hj, fun hj => ?_, fun h0 => ?_⟩
  · have := hcn hj; omega
  · obtain ⟨h1, rfl⟩ := ha (by omega)
    refine ⟨h1, ?_⟩
    rw [if_neg (by omega), Option.map_some, add_addr, Nat.add_mul, Nat.add_assoc]

/-- The bounds with a third index. -/
theorem run_bounds3 {P : Program} {w : World} {b : Bool} {len cap : Nat} {lo hi : Option Value} {l h m : Int} {k : IntKind} (hl : (lo = none ∧ l = 0) ∨ ∃ k, lo = some (.int k l)) (hh : ∃ k, hi = some (.int k h))
    (hb : 0 ≤ l ∧ l ≤ h ∧ h ≤ m ∧ m ≤ cap) : (Instr.sliceBounds b len cap lo hi (some (.int k m))).run P w = .ok (l.toNat, h.toNat, m.toNat) w := by
  have e1 : 0 ≤ m ∧ m ≤ (cap : Int) := by omega
  have e2 : 0 ≤ h ∧ h ≤ (m.toNat : Int) := by omega
  have e3 : 0 ≤ l ∧ l ≤ (h.toNat : Int) := by omega
  obtain ⟨k2, rfl⟩ := hh
  rcases hl with ⟨rfl, rfl⟩ | ⟨k1, rfl⟩
  · simp [Instr.sliceBounds, run_bound e1, run_bound e2]
  · simp [Instr.sliceBounds, run_bound e1, run_bound e2, run_bound e3]

/-- The bounds without a third index, up to what the capacity bears. -/
theorem run_boundsC {P : Program} {w : World} {b : Bool} {len cap : Nat} {lo hi : Option Value} {l h : Int} (hl : (lo = none ∧ l = 0) ∨ ∃ k, lo = some (.int k l)) (hh : (hi = none ∧ h = len) ∨ ∃ k, hi = some (.int k h))
    (hb : 0 ≤ l ∧ l ≤ h ∧ h ≤ cap) : (Instr.sliceBounds b len cap lo hi none).run P w = .ok (l.toNat, h.toNat, cap) w := by
  have e1 : 0 ≤ h ∧ h ≤ (cap : Int) := by omega
  have e2 : 0 ≤ l ∧ l ≤ (h.toNat : Int) := by omega
  rcases hl with ⟨rfl, rfl⟩ | ⟨k, rfl⟩ <;> rcases hh with ⟨rfl, rfl⟩ | ⟨k', rfl⟩
  · simp [Instr.sliceBounds]
  · simp [Instr.sliceBounds, run_bound e1]
  · have e3 : 0 ≤ l ∧ l ≤ (len : Int) := by omega
    simp [Instr.sliceBounds, run_bound e3]
  · simp [Instr.sliceBounds, run_bound e1, run_bound e2]

theorem run_slc {P : Program} {t e : TypeId} {a : Option Addr} {n k l u m sz : Nat} {lo hi mx : Option Value} {w : World} (hu : P.underlying t = some (.slice e)) (hs : sizeT P e = some sz)
    (hb : (Instr.sliceBounds true n k lo hi mx).run P w = .ok (l, u, m) w) :
    (Instr.sliceAt t (.slice a n k) lo hi mx).run P w = .ok (.slice (if m = l then a else a.map (·.add (l * sz))) (u - l) (m - l)) w := by
  rw [run_sliceAt hu (by simp)]
  simp only [Instr.slice, Sem.run_bind, run_underlying' hu, Result.andThen_ok]
  simp only [hb, Result.andThen_ok, run_sizeOf hs, Sem.run_pure]

/-- What a vector's slice is. -/
theorem vec_base {β : Nat → HI} {I : Nat → Prop} {w : World} {F : Nat → Nat → Prop} {mem : List (Chunk O)} {h n sz : Nat} {at_ : Nat → Nat → SV} (hm : MSat β I w F mem) (hc : lget mem h = some (.vec n sz at_)) :
    (β h).len = n ∧ n ≤ maxN ∧ n ≤ (β h).cap ∧ ∀ sz', 0 < (β h).cap → (β h).nil = false ∧ (β h).adr = some ⟨(β h).blk, (β h).off + 0 * sz', none⟩ := by
  have hcs := lget_chunk hm hc
  simp only [CSat] at hcs
  obtain ⟨hl, hn, hcap, hnil, _⟩ := hcs
  refine ⟨hl, hn, hcap, fun sz' h0 => ?_⟩
  have hnf : (β h).nil = false := by
    cases hb : (β h).nil
    · rfl
    · have := hnil hb; omega
  exact ⟨hnf, by rw [HI.adr_some hnf (by omega)]; simp⟩

theorem ok_slc {P : Program} {o : Oper} {s : St O} {K : St O → Prop} {t e : TypeId} {x : Operand} {lo hi mx : Option Operand} {sz : Nat} (ho : o.op = .slice t x lo hi mx)
    (hu : P.underlying t = some (.slice e)) (hs : sizeT P e = some sz) (hc : compOp P o.op = .slc sz (cX x) (lo.map cX) (hi.map cX) (mx.map cX))
    (h : vop std P o.dst (.slc sz (cX x) (lo.map cX) (hi.map cX) (mx.map cX)) s K) : SemY P o s K [] := by
  simp only [vop] at h
  split at h
  · rename_i n sz' at_ hx hmx
    have hmx0 : mx = none := by cases mx with | none => rfl | some y => simp [evO] at hmx
    subst hmx0
    split at h
    · rename_i l u hl hu'
      split at h
      · rename_i hsz
        subst hsz
        obtain ⟨hb, h⟩ := h
        have hb : 0 ≤ l ∧ l ≤ u ∧ u ≤ (n : Int) ∧ _ := hb
        obtain ⟨hb1, hb2, hb3, _⟩ := hb
        have e1 : l.toNat ≤ u.toNat := by omega
        have e2 : u.toNat ≤ n := by omega
        refine sem_pure _ h fun a w β I F hm he => ?_
        have h1 := ev_rel he x
        rw [hx] at h1
        simp only [Rel, DRel] at h1
        obtain ⟨ad, cap, hv, hn, hcap, h1⟩ := h1
        have hbd := fun w' : World => run_bounds (P := P) (w := w') (b := true) (len := n) (cap := cap) (optVal he hl) (optVal he hu') ⟨hb1, hb2, hb3⟩ hcap
        refine ⟨.slice (if cap = l.toNat then ad else ad.map (·.add (l.toNat * sz'))) (u.toNat - l.toNat) (cap - l.toNat), fun w' _ => ?_, ?_⟩
        · simp only [execOp, ho, hv]
          refine run_v ?_
          rw [run_sliceAt hu (by simp)]
          simp only [Instr.slice, Sem.run_bind, run_underlying' hu, Result.andThen_ok]
          simp only [Option.map_none, hbd, Result.andThen_ok, run_sizeOf hs, Sem.run_pure]
        · simp only [Rel, DRel]
          show ∃ (a : Option Addr) (c : Nat), _ = Value.slice _ (u.toNat - l.toNat) c ∧ (u.toNat - l.toNat) ≤ maxN ∧ (u.toNat - l.toNat) ≤ c ∧ (0 < u.toNat - l.toNat → ∃ b o cs T fz, a = some ⟨b, o, none⟩ ∧ I b ∧
            w.heap[b]? = some (.cells cs T fz) ∧ o + (u.toNat - l.toNat) * sz' ≤ cs.size ∧ ∀ i f, i < u.toNat - l.toNat → f < sz' → DRel I w (at_ (l.toNat + i) f) (cs.getD (o + i * sz' + f) undef))
          generalize l.toNat = l' at *
          generalize u.toNat = u' at *
          refine ⟨if cap = l' then ad else ad.map (·.add (l' * sz')), cap - l', rfl, by omega, by omega, fun h0 => ?_⟩
          · obtain ⟨b, p, cs, T, fz, rfl, hI, hbk, hle, hr⟩ := h1 (Nat.lt_of_lt_of_le (Nat.lt_of_le_of_lt (Nat.zero_le _) (Nat.lt_of_sub_pos h0)) e2)
            rw [if_neg (Nat.ne_of_gt (Nat.lt_of_lt_of_le (Nat.lt_of_sub_pos h0) (Nat.le_trans e2 hcap)))]
            have hmul : u' * sz' ≤ n * sz' := Nat.mul_le_mul_right _ e2
            have hsub : (u' - l') * sz' + l' * sz' = u' * sz' := by rw [← Nat.add_mul, Nat.sub_add_cancel e1]
            refine ⟨b, p + l' * sz', cs, T, fz, by simp [add_addr], hI, hbk, Nat.le_trans (by rw [Nat.add_assoc, Nat.add_comm (l' * sz'), hsub]; exact Nat.add_le_add_left hmul p) hle, fun i f hi hf => ?_⟩
            have := hr (l' + i) f (Nat.lt_of_lt_of_le (Nat.add_comm i l' ▸ Nat.add_lt_of_lt_sub hi) e2) hf
            rw [Nat.add_mul, ← Nat.add_assoc] at this
            exact this
      · exact stuck_ok rfl hc h
    · exact stuck_ok rfl hc h
  · rename_i n sz' at_ k hx hmx
    have fin : ∀ (lo' : Option Operand), (evO s (lo'.map cX) = none ∨ ∃ k, evO s (lo'.map cX) = some (.dv (.int k 0))) → (∃ k, evO s (hi.map cX) = some (.dv (.int k 0))) → lo = lo' → K (s.put o.dst (.dv .emp)) → SemY P o s K [] := by
      intro lo' hlo hhi e0 hK
      subst e0
      refine sem_pure _ hK fun a w β I F hm he => ?_
      have h1 := ev_rel he x
      rw [hx] at h1
      simp only [Rel, DRel] at h1
      obtain ⟨ad, cap, hv, hn, hcap, _⟩ := h1
      obtain ⟨k', hhi⟩ := hhi
      obtain ⟨y, rfl, hy⟩ := evO_rel he hmx
      obtain ⟨y', rfl, hy'⟩ := evO_rel he hhi
      have hlo' : lo.map a.eval = none ∨ ∃ k, lo.map a.eval = some (.int k 0) := by
        rcases hlo with h0 | ⟨k, h0⟩
        · cases lo with
          | none => exact .inl rfl
          | some z => simp [evO] at h0
        · obtain ⟨z, rfl, hz⟩ := evO_rel he h0
          exact .inr ⟨k, by simp [hz]⟩
      refine ⟨.slice ad 0 0, fun w' _ => ?_, by simp only [Rel, DRel]; exact ⟨ad, rfl⟩⟩
      simp only [execOp, ho, hv]
      refine run_v ?_
      rw [run_sliceAt hu (by simp)]
      have hbd : (Instr.sliceBounds true n cap (lo.map a.eval) (some (.int k' 0)) (some (.int k 0))).run P w' = .ok (0, 0, 0) w' := by
        rcases hlo' with h0 | ⟨k2, h0⟩ <;> rw [h0] <;> simp [Instr.sliceBounds, Instr.sliceBound, asIntOf]
      simp [Instr.slice, run_underlying' hu, hy, hy', hbd, run_sizeOf hs]
    split at h
    · rename_i k' hl hh
      exact fin lo (.inl hl) ⟨k', hh⟩ rfl h
    · rename_i k1 k' hl hh
      exact fin lo (.inr ⟨k1, hl⟩) ⟨k', hh⟩ rfl h
    · exact stuck_ok rfl hc h
  · rename_i hh hx hmx
    have hmx0 : mx = none := by cases mx with | none => rfl | some y => simp [evO] at hmx
    subst hmx0
    split at h
    · rename_i n sz' at_ hch
      split at h
      · rename_i l u hl hu'
        split at h
        · obtain ⟨hb, h⟩ := h
          have hb : 0 ≤ l ∧ l ≤ u ∧ u ≤ (n : Int) ∧ _ := hb
          obtain ⟨hb1, hb2, hb3, _⟩ := hb
          refine sem_pure _ h fun a w β I F hm he => ?_
          have h1 := ev_rel he x
          rw [hx] at h1
          simp only [Rel] at h1
          obtain ⟨hlen, hn, hcap, hbase⟩ := vec_base hm hch
          rw [hlen] at h1
          have hbd := fun w' : World => run_bounds (P := P) (w := w') (b := true) (len := n) (cap := (β hh).cap) (optVal he hl) (optVal he hu') ⟨hb1, hb2, hb3⟩ hcap
          refine ⟨_, fun w' _ => ?_, win_part (a := (β hh).adr) (k := (β hh).cap) (lo := 0) (l := l.toNat) (u := u.toNat) (m := (β hh).cap) h1.1 (by omega) (by omega) (hbase sz) (by omega) (by omega) (Nat.le_refl _) (by simp) (fun _ => ⟨by omega, rfl⟩) (by simp [std])⟩
          simp only [execOp, ho, h1.2]
          exact run_v (run_slc hu hs (hbd w'))
        · exact stuck_ok rfl hc h
      · exact stuck_ok rfl hc h
    · exact stuck_ok rfl hc h
  · rename_i hh m0 hx hmx
    split at h
    · rename_i n sz' at_ hch
      split at h
      · rename_i k1 k0 hl hu'
        refine sem_pure _ h fun a w β I F hm he => ?_
        have h1 := ev_rel he x
        rw [hx] at h1
        simp only [Rel] at h1
        obtain ⟨y, rfl, hy⟩ := evO_rel he hmx
        obtain ⟨y2, rfl, hy2⟩ := evO_rel he hu'
        have hhi : ∃ k, (some y2).map a.eval = some (.int k 0) := ⟨_, by rw [Option.map_some, hy2]⟩
        refine ⟨.slice (β hh).adr 0 0, fun w' _ => ?_, by simp only [Rel, DRel]; exact ⟨_, rfl⟩⟩
        have hbd := run_bounds3 (P := P) (w := w') (b := true) (len := (β hh).len) (cap := (β hh).cap) (m := 0) (k := k0) (optVal he hl) hhi ⟨by omega, by omega, by omega, by omega⟩
        simp only [execOp, ho, h1.2, Option.map_some, hy]
        exact run_v (run_slc hu hs hbd)
      · rename_i l k1 u k0 m _ hl hu'
        split at h
        · obtain ⟨hb, h⟩ := h
          have hb : 0 ≤ l ∧ l ≤ u ∧ u ≤ m ∧ m ≤ (n : Int) := hb
          refine sem_pure _ h fun a w β I F hm he => ?_
          have h1 := ev_rel he x
          rw [hx] at h1
          simp only [Rel] at h1
          obtain ⟨hlen, hn, hcap, hbase⟩ := vec_base hm hch
          obtain ⟨y, rfl, hy⟩ := evO_rel he hmx
          obtain ⟨y2, rfl, hy2⟩ := evO_rel he hu'
          have hhi : ∃ k, (some y2).map a.eval = some (.int k u) := ⟨_, by rw [Option.map_some, hy2]⟩
          have hbd := fun w' : World => run_bounds3 (P := P) (w := w') (b := true) (len := (β hh).len) (cap := (β hh).cap) (k := k0) (optVal he hl) hhi ⟨hb.1, hb.2.1, hb.2.2.1, by omega⟩
          refine ⟨_, fun w' _ => ?_, win_part (a := (β hh).adr) (k := (β hh).cap) (lo := 0) (l := l.toNat) (u := u.toNat) (m := m.toNat) h1.1 (by omega) (by omega) (hbase sz) (by omega) (by omega) (by omega) (fun j hj => by simpa [std] using hj) (by simp) (by simp [std])⟩
          simp only [execOp, ho, h1.2, Option.map_some, hy]
          exact run_v (run_slc hu hs (hbd w'))
        · exact stuck_ok rfl hc h
      · exact stuck_ok rfl hc h
    · exact stuck_ok rfl hc h
  · rename_i hh lo' n c sz' hx hmx
    have hmx0 : mx = none := by cases mx with | none => rfl | some y => simp [evO] at hmx
    subst hmx0
    split at h
    · rename_i N sz'' at_ hch
      split at h
      · rename_i l u hl hu'
        split at h
        · rename_i hsz
          subst hsz
          obtain ⟨hb, h⟩ := h
          have hb : 0 ≤ l ∧ l ≤ u ∧ u ≤ ((N - lo' : Nat) : Int) ∧ _ := hb
          obtain ⟨hb1, hb2, hb3, _⟩ := hb
          refine sem_pure _ h fun a w β I F hm he => ?_
          have h1 := ev_rel he x
          rw [hx] at h1
          simp only [Rel] at h1
          obtain ⟨hN, hn, ad, k, hv, hnk, hlk, _, hcn, had⟩ := h1
          obtain ⟨hlen, hNm, hcap, _⟩ := vec_base hm hch
          have hk := hcn trivial
          have hbd := fun w' : World => run_boundsC (P := P) (w := w') (b := true) (len := n) (cap := k) (optVal he hl) (optVal he hu') ⟨hb1, hb2, by omega⟩
          refine ⟨_, fun w' _ => ?_, win_part (a := ad) (k := k) (lo := lo') (l := l.toNat) (u := u.toNat) (m := k) hN (by omega) hlk had (by omega) (by omega) (Nat.le_refl _) (by simp) (fun _ => ⟨hk, rfl⟩) rfl⟩
          simp only [execOp, ho, hv]
          exact run_v (run_slc hu hs (hbd w'))
        · exact stuck_ok rfl hc h
      · exact stuck_ok rfl hc h
    · rename_i k0 N sz'' at_ hch
      split at h
      · rename_i l u hl hu'
        split at h
        · rename_i hsz
          subst hsz
          obtain ⟨hb, h⟩ := h
          have hb : 0 ≤ l ∧ l ≤ u ∧ u ≤ (n : Int) ∧ _ := hb
          obtain ⟨hb1, hb2, hb3, _⟩ := hb
          refine sem_pure _ h fun a w β I F hm he => ?_
          have h1 := ev_rel he x
          rw [hx] at h1
          simp only [Rel] at h1
          obtain ⟨hN, hn, ad, k, hv, hnk, hlk, hck, _, had⟩ := h1
          have hk := hck _ rfl
          have hbd := fun w' : World => run_boundsC (P := P) (w := w') (b := true) (len := n) (cap := k) (optVal he hl) (optVal he hu') ⟨hb1, hb2, by omega⟩
          refine ⟨_, fun w' _ => ?_, win_part (a := ad) (k := k) (lo := lo') (l := l.toNat) (u := u.toNat) (m := k) hN (by omega) hlk had (by omega) (by omega) (Nat.le_refl _) (fun j hj => by simp [std] at hj; omega) (by simp) rfl⟩
          simp only [execOp, ho, hv]
          exact run_v (run_slc hu hs (hbd w'))
        · exact stuck_ok rfl hc h
      · exact stuck_ok rfl hc h
    · exact stuck_ok rfl hc h
  · rename_i hh lo' n c sz' m0 hx hmx
    split at h
    · rename_i N sz'' at_ hch
      split at h
      · rename_i l k1 u k0 m hl hu'
        split at h
        · rename_i hsz
          subst hsz
          obtain ⟨hb, h⟩ := h
          have hb : 0 ≤ l ∧ l ≤ u ∧ u ≤ m ∧ m ≤ (n : Int) := hb
          refine sem_pure _ h fun a w β I F hm he => ?_
          have h1 := ev_rel he x
          rw [hx] at h1
          simp only [Rel] at h1
          obtain ⟨hN, hn, ad, k, hv, hnk, hlk, _, _, had⟩ := h1
          obtain ⟨y, rfl, hy⟩ := evO_rel he hmx
          obtain ⟨y2, rfl, hy2⟩ := evO_rel he hu'
          have hhi : ∃ k, (some y2).map a.eval = some (.int k u) := ⟨_, by rw [Option.map_some, hy2]⟩
          have hbd := fun w' : World => run_bounds3 (P := P) (w := w') (b := true) (len := n) (cap := k) (k := k0) (optVal he hl) hhi ⟨hb.1, hb.2.1, hb.2.2.1, by omega⟩
          refine ⟨_, fun w' _ => ?_, win_part (a := ad) (k := k) (lo := lo') (l := l.toNat) (u := u.toNat) (m := m.toNat) hN (by omega) hlk had (by omega) (by omega) (by omega) (fun j hj => by simpa [std] using hj) (by simp) rfl⟩
          simp only [execOp, ho, hv, Option.map_some, hy]
          exact run_v (run_slc hu hs (hbd w'))
        · exact stuck_ok rfl hc h
      · exact stuck_ok rfl hc h
    · exact stuck_ok rfl hc h
  · exact stuck_ok rfl hc h

theorem wp_enter {P : Program} {o : Oper} {a : Act} {w : World} {f : FuncId} {vs : Array Value} {next : Act → World → Prop} {Q : Exit → Act → World → Prop}
    (h : (execOp a.eval o).run P w = .ok (.enter f vs) w) (hn : Calls P f vs w fun e w' => ∃ v, e = .returned v ∧ next (a.put o.dst v) w') : o.wp P a w next Q := by
  rw [Oper.wp, h]
  refine Calls.mono hn fun e w' ⟨v, he, hv⟩ => ?_
  subst he
  exact hv

theorem run_callFunc {P : Program} {f : FuncId} {vs : Array Value} {w : World} (h : codeFn P f = true) : (callFunc f vs).run P w = .ok (.enter f vs) w := by
  unfold codeFn at h
  split at h
  · rename_i fn hf
    simp only [Bool.and_eq_true, Bool.not_eq_true'] at h
    have hb : fn.body.isNone = false := by cases hb : fn.body <;> simp_all
    simp only [callFunc, Sem.run_bind, run_program, Result.andThen_ok, hf, h.2, hb, Bool.false_eq_true, if_false, Sem.run_pure]
  · cases h

theorem SatX.of {fr : Fr} {s : St O} {a : Act} {w : World} (hs : Sat fr s a w) {xs : List X} {vs : List Value}
    (h : ∀ (β : Nat → HI) (I : Nat → Prop), RelL β s.mem.length I w s.env a.tmps.toList → RelL β s.mem.length I w (xs.map s.ev) vs) : SatX fr s a w (xs.map s.ev) vs := by
  obtain ⟨hd, β, I, F, hm, he, hw, hb, hn⟩ := hs
  exact ⟨hd, β, I, F, hm, he, hw, hb, hn, h β I he⟩

theorem ok_call {P : Program} {o : Oper} {s : St O} {K : St O → Prop} {c : Call} {f : FuncId} (ho : o.op = .call c) (hf : c.callee = .value (.func f))
    (h : CallVC P f o.dst (c.args.toList.map cX) s K) : SemO P o s K := by
  intro fr a w hs next Q hnext
  refine wp_enter (f := f) (vs := (c.args.toList.map a.eval).toArray) ?_ (h.h fr a w _ (SatX.of hs fun β I he => evs_rel he _) next hnext)
  simp only [execOp, ho, resolve, hf, Act.eval, Deferred.ofValue, Sem.run_bind, Sem.run_pure, Result.andThen_ok, invoke]
  rw [run_callFunc h.c]
  simp [← Array.toList_map]

omit [Objs O] in
theorem map_c {s : St O} : ∀ l : List SV, (l.map X.c).map s.ev = l
  | [] => rfl
  | x :: l => by simp only [List.map_cons, map_c l]; rfl

theorem ok_callv {P : Program} {o : Oper} {s : St O} {K : St O → Prop} {c : Call} {x : Operand} (ho : o.op = .call c) (hf : c.callee = .value x) (hc : compOp P o.op = .callv (cX x) (c.args.toList.map cX))
    (h : vop std P o.dst (.callv (cX x) (c.args.toList.map cX)) s K) : SemO P o s K := by
  simp only [vop] at h
  split at h
  · rename_i f caps hx
    intro fr a w hs next Q hnext
    obtain ⟨hd, β, I, F, hm, he, hw, hb, hn⟩ := hs
    have h1 := ev_rel he x
    rw [hx] at h1
    simp only [Rel] at h1
    obtain ⟨cs, hv, hr⟩ := h1
    refine wp_enter (f := f) (vs := (c.args.toList.map a.eval ++ cs).toArray) ?_ (h.h fr a w _ ⟨hd, β, I, F, hm, he, hw, hb, hn, ?_⟩ next hnext)
    · simp only [execOp, ho, resolve, hf, hv, Deferred.ofValue, Sem.run_bind, Sem.run_pure, Result.andThen_ok, invoke]
      rw [run_callFunc h.c]
      simp [← Array.toList_map]
    · rw [List.map_append, map_c]
      exact (evs_rel he _).append hr
  · rename_i f caps hx
    intro fr a w hs next Q hnext
    obtain ⟨hd, β, I, F, hm, he, hw, hb, hn⟩ := hs
    have h1 := ev_rel he x
    rw [hx] at h1
    simp only [Rel] at h1
    obtain ⟨cs, hv, hr⟩ := h1
    refine wp_enter (f := f) (vs := (cs ++ c.args.toList.map a.eval).toArray) ?_ (h.h fr a w _ ⟨hd, β, I, F, hm, he, hw, hb, hn, ?_⟩ next hnext)
    · simp only [execOp, ho, resolve, hf, hv, Deferred.ofValue, Sem.run_bind, Sem.run_pure, Result.andThen_ok, invoke]
      rw [run_callFunc h.c]
      simp [← Array.toList_map]
    · rw [List.map_append, map_c]
      exact hr.append (evs_rel he _)
  · exact stuck_ok rfl hc h

theorem methOf_spec {P : Program} {t : TypeId} {m : String} {f : FuncId} (h : methOf P t m = some f) (v : Value) (w : World) (n : Nat) : (method (n + 1) t v m).run P w = .ok (f, v) w := by
  unfold methOf at h
  split at h
  · rename_i e i hu hi
    split at h
    · rename_i x hx
      split at h
      · rename_i g hg hp
        simp only [Option.some.injEq] at h
        subst h
        have hp' : x.path = #[] := by simpa using hp
        have hti : (typeInfo t).run P w = .ok i w := by simp [typeInfo, hi]
        simp [method, hti, hx, hp', follow, hg, receiverAt, run_underlying' hu, Place.get]
      · cases h
    · cases h
  · cases h

theorem ok_invoke {P : Program} {o : Oper} {s : St O} {K : St O → Prop} {c : Call} {r : Operand} {m : String} (ho : o.op = .call c) (hf : c.callee = .invoke r m) (hc : compOp P o.op = .inv (cX r) m (c.args.toList.map cX))
    (h : vop std P o.dst (.inv (cX r) m (c.args.toList.map cX)) s K) : SemO P o s K := by
  simp only [vop] at h
  split at h
  · rename_i t v hx
    obtain ⟨f, hmf, h⟩ := h.ex
    intro fr a w hs next Q hnext
    obtain ⟨hd, β, I, F, hm, he, hw, hb, hn⟩ := hs
    have h1 := ev_rel he r
    rw [hx] at h1
    simp only [Rel] at h1
    obtain ⟨y, hv, hr⟩ := h1
    refine wp_enter (f := f) (vs := (y :: c.args.toList.map a.eval).toArray) ?_ (h.h fr a w _ ⟨hd, β, I, F, hm, he, hw, hb, hn, ?_⟩ next hnext)
    · simp only [execOp, ho, resolve, hf, hv, Sem.run_bind, Sem.run_pure, Result.andThen_ok, invoke]
      have hm1 := methOf_spec hmf y w (P.types.size + Made.depth - 1)
      have hdep : P.types.size + Made.depth - 1 + 1 = P.types.size + Made.depth := by
        have : 0 < Made.depth := by decide
        omega
      rw [hdep] at hm1
      have e0 : (#[Value.iface t y] ++ Array.map a.eval c.args)[0]? = some (.iface t y) := by
        rw [Array.getElem?_append_left (by simp)]
        rfl
      simp only [e0, callMethod, Sem.run_bind, run_program, Result.andThen_ok, hm1, run_callFunc h.c]
      congr 2
      apply Array.toList_inj.1
      simp [List.take_of_length_le]
    · simp only [List.map_cons]
      exact ⟨y, _, rfl, hr, evs_rel he _⟩
  · exact stuck_ok rfl hc h

end Go.V
