/-
  The conditions suffice: loads.
-/
import Derived.Test.YtiaceoomiflgcaaVcgE
import Derived.Laws.Cells
namespace Go.V
variable {O : Type} [Objs O]

theorem cell_of {w : World} {b k : Nat} {cs : Array Value} {T : TypeId} {fz : Nat × Nat} (h : w.heap[b]? = some (.cells cs T fz)) : w.cell? ⟨b, k, none⟩ = cs[k]? := by
  simp [World.cell?, h]

section
variable {β : Nat → HI} {N : Nat} {I : Nat → Prop} {w : World} {cs : Array Value}

theorem segGet_ok : ∀ {ss off o v}, SegsSat β N I w cs off ss → segGet ss o = some v → ∃ x, cs[off + o]? = some x ∧ Rel β N I w v x
  | [], _, _, _, _, h => by simp [segGet] at h
  | .one _ :: _, _, 0, _, hs, h => by
    simp only [segGet, Option.some.injEq] at h
    obtain ⟨x, hx, hr⟩ := hs.1
    exact ⟨x, hx, h ▸ hr⟩
  | .one _ :: _, off, n + 1, _, hs, h => by
    simp only [segGet] at h
    obtain ⟨x, hx, hr⟩ := segGet_ok hs.2 h
    exact ⟨x, by rw [show off + (n + 1) = off + 1 + n by omega]; exact hx, hr⟩
  | .arr n sz at_ :: r, off, o, v, hs, h => by
    simp only [segGet] at h
    split at h
    · rename_i ho
      simp only [Option.some.injEq] at h
      have hsz : 0 < sz := by
        rcases Nat.eq_zero_or_pos sz with h0 | h0
        · subst h0; simp at ho
        · exact h0
      obtain ⟨x, hx, hr⟩ := hs.1 (o / sz) (o % sz) ((Nat.div_lt_iff_lt_mul hsz).2 ho) (Nat.mod_lt _ hsz)
      refine ⟨x, ?_, h ▸ hr⟩
      rw [show off + o = off + o / sz * sz + o % sz by have := Nat.div_add_mod o sz; rw [Nat.mul_comm] at this; omega]
      exact hx
    · rename_i ho
      obtain ⟨x, hx, hr⟩ := segGet_ok hs.2 h
      exact ⟨x, by rw [show off + o = off + n * sz + (o - n * sz) by omega]; exact hx, hr⟩

theorem segTake_ok : ∀ {n ss o l}, SegsSat β N I w cs 0 ss → segTake ss o n = some l → ∃ xs : List Value, xs.length = n ∧ RelL β N I w l xs ∧ ∀ j v, xs[j]? = some v → cs[o + j]? = some v
  | 0, _, _, _, _, h => by
    simp only [segTake, Option.some.injEq] at h
    subst h
    exact ⟨[], rfl, rfl, by simp⟩
  | n + 1, ss, o, l, hs, h => by
    simp only [segTake] at h
    split at h
    · rename_i v hv
      split at h
      · rename_i l' hl
        simp only [Option.some.injEq] at h
        subst h
        obtain ⟨x, hx, hr⟩ := segGet_ok hs hv
        obtain ⟨xs, hlen, hrs, hc⟩ := segTake_ok hs hl
        refine ⟨x :: xs, by simp [hlen], ⟨x, xs, rfl, hr, hrs⟩, fun j u hj => ?_⟩
        cases j with
        | zero =>
          simp only [List.getElem?_cons_zero, Option.some.injEq] at hj
          subst hj
          simpa using hx
        | succ j =>
          simp only [List.getElem?_cons_succ] at hj
          have := hc j u hj
          rw [show o + (j + 1) = o + 1 + j by omega]
          exact this
      · cases h
    · cases h

theorem segArr_ok : ∀ {ss off o n sz at_}, SegsSat β N I w cs off ss → segArr ss o = some (n, sz, at_) →
    ∀ i f, i < n → f < sz → ∃ x, cs[off + o + i * sz + f]? = some x ∧ Rel β N I w (at_ i f) x
  | [], _, _, _, _, _, _, h => by simp [segArr] at h
  | .arr _ _ _ :: _, _, 0, _, _, _, hs, h => by
    simp only [segArr, Option.some.injEq, Prod.mk.injEq] at h
    obtain ⟨rfl, rfl, rfl⟩ := h
    simpa using hs.1
  | .one _ :: _, off, k + 1, _, _, _, hs, h => by
    simp only [segArr] at h
    have := segArr_ok hs.2 h
    simpa only [show off + (k + 1) = off + 1 + k by omega] using this
  | .arr m z _ :: _, off, k + 1, _, _, _, hs, h => by
    simp only [segArr] at h
    split at h
    · rename_i hk
      have := segArr_ok hs.2 h
      simpa only [show off + (k + 1) = off + m * z + (k + 1 - m * z) by omega] using this
    · cases h
  | .one _ :: _, _, 0, _, _, _, _, h => by simp [segArr] at h

theorem takeAtS_ok {at_ : Nat → Nat → SV} {i p : Nat} : ∀ {n f}, (∀ g, f ≤ g → g < f + n → ∃ x, cs[p + g]? = some x ∧ Rel β N I w (at_ i g) x) →
    ∃ xs : List Value, xs.length = n ∧ RelL β N I w (takeAtS at_ i f n) xs ∧ ∀ j v, xs[j]? = some v → cs[p + f + j]? = some v
  | 0, _, _ => ⟨[], rfl, rfl, by simp⟩
  | n + 1, f, h => by
    obtain ⟨x, hx, hr⟩ := h f (Nat.le_refl _) (by omega)
    obtain ⟨xs, hlen, hrs, hc⟩ := takeAtS_ok (n := n) (f := f + 1) fun g h1 h2 => h g (by omega) (by omega)
    refine ⟨x :: xs, by simp [hlen], ⟨x, xs, rfl, hr, hrs⟩, fun j u hj => ?_⟩
    cases j with
    | zero =>
      simp only [List.getElem?_cons_zero, Option.some.injEq] at hj
      subst hj
      simpa using hx
    | succ j =>
      simp only [List.getElem?_cons_succ] at hj
      have := hc j u hj
      rw [show p + f + (j + 1) = p + (f + 1) + j by omega]
      exact this

theorem takeAt_eq {at_ : Nat → Nat → DV} {i : Nat} : ∀ {n f}, takeAt at_ i f n = takeAtS (dvAt at_) i f n
  | 0, _ => rfl
  | n + 1, f => by simp only [takeAt, takeAtS, dvAt]; rw [takeAt_eq]
end

theorem ldT_spec {P : Program} {t : TypeId} {n : Option Nat} (h : ldT P t = some n) :
    ∃ d i, P.underlying t = some d ∧ P.info? t = some i ∧ ((n = some i.size ∧ ∀ w : World, (isAgg t).run P w = .ok true w) ∨ (n = none ∧ ∀ w : World, (isAgg t).run P w = .ok false w)) := by
  unfold ldT at h
  split at h
  · rename_i i ha hi
    simp only [Option.some.injEq] at h
    unfold aggT at ha
    split at ha <;> rename_i hu <;> simp at ha <;> refine ⟨_, i, hu, hi, .inl ⟨h.symm, fun w => ?_⟩⟩ <;> simp [isAgg, run_underlying' hu]
  · rename_i i ha hi
    simp only [Option.some.injEq] at h
    unfold aggT at ha
    split at ha
    · simp at ha
    · simp at ha
    · rename_i d h1 h2 hu
      refine ⟨d, i, hu, hi, .inr ⟨h.symm, fun w => ?_⟩⟩
      cases d <;> simp [isAgg, run_underlying' hu] <;> first | exact (h1 _ rfl).elim | exact (h2 _ _ rfl).elim
    · simp at ha
  · cases h

theorem run_load1 {P : Program} {t : TypeId} {w : World} {a : Addr} {v : Value} (h : ldT P t = some none) (hv : w.cell? a = some v) : (loadVar t a).run P w = .ok v w := by
  obtain ⟨d, i, _, _, ⟨h0, _⟩ | ⟨_, h0⟩⟩ := ldT_spec h
  · cases h0
  · simp [loadVar, h0, hv]

theorem run_loadN {P : Program} {t : TypeId} {w : World} {a : Addr} {n : Nat} {cs : List Value} (h : ldT P t = some (some n)) (hn : cs.length = n)
    (hv : ∀ j v, cs[j]? = some v → w.cell? (a.add j) = some v) : (loadVar t a).run P w = .ok (.agg cs.toArray) w := by
  obtain ⟨d, i, hu, hi, ⟨h0, h1⟩ | ⟨h0, _⟩⟩ := ldT_spec h
  · simp only [Option.some.injEq] at h0
    subst h0
    have hs : (sizeOf t).run P w = .ok cs.length w := by simp [sizeOf, typeInfo, hi, hn]
    simp [loadVar, h1, hs, run_loadCells_list _ _ _ hv]
  · cases h0

theorem ok_load1 {P : Program} {o : Oper} {s : St O} {K : St O → Prop} {t : TypeId} {x : Operand} (ho : o.op = .load t x) (hl : ldT P t = some none) (hc : compOp P o.op = .ld none (cX x))
    (h : vop std P o.dst (.ld none (cX x)) s K) : SemY P o s K (ldH s (.ld none (cX x))) := by
  have fin : ∀ {a : Act} {w : World} {ad : Addr} {v : Value}, a.eval x = .pointer (some ad) → w.cell? ad = some v → (execOp a.eval o).run P w = .ok (.value v) w := by
    intro a w ad v h1 h2
    simp only [execOp, ho, h1, Instr.loadAt, Instr.sureAddr]
    exact run_v (by simp [run_load1 hl h2])
  simp only [vop] at h
  split at h
  · rename_i hh p hx
    split at h
    · rename_i ss hch
      split at h
      · rename_i v hv
        refine sem_pure _ h fun a w β I F hm he => ?_
        have h1 := ev_rel he x
        rw [hx] at h1
        simp only [Rel] at h1
        have hcs := lget_chunk hm hch
        simp only [CSat] at hcs
        obtain ⟨hF, ⟨hoff, _⟩, cs, T, hb, hss⟩ := hcs
        have hin : ∀ {w'}, AgrL (ldH s (.ld none (cX x))) I F w w' → w'.heap[(β hh).blk]? = some (.cells cs T (0, 0)) := fun hw => (hw _ (.inr ⟨hh, by simp [ldH, hx], (hF _).2 rfl⟩)).trans hb
        obtain ⟨u, hu, hr⟩ := segGet_ok hss hv
        exact ⟨u, fun w' hw => fin h1.2 (by rw [cell_of (hin hw), hoff]; exact hu), hr⟩
      · exact stuck_ok rfl hc h
    · exact stuck_ok rfl hc h
  · rename_i hh p i nn sz f hx
    split at h
    · rename_i ss hch
      split at h
      · rename_i n sz' at_ har
        split at h
        · rename_i hsz
          obtain ⟨rfl, rfl, hf⟩ := hsz
          refine sem_pure _ h fun a w β I F hm he => ?_
          have h1 := ev_rel he x
          rw [hx] at h1
          simp only [Rel] at h1
          have hi := h1.1.2
          have hcs := lget_chunk hm hch
          simp only [CSat] at hcs
          obtain ⟨hF, ⟨hoff, _⟩, cs, T, hb, hss⟩ := hcs
          have hin : ∀ {w'}, AgrL (ldH s (.ld none (cX x))) I F w w' → w'.heap[(β hh).blk]? = some (.cells cs T (0, 0)) := fun hw => (hw _ (.inr ⟨hh, by simp [ldH, hx], (hF _).2 rfl⟩)).trans hb
          obtain ⟨u, hu, hr⟩ := segArr_ok hss har i f hi hf
          exact ⟨u, fun w' hw => fin h1.2 (by rw [cell_of (hin hw), hoff]; exact hu), hr⟩
        · exact stuck_ok rfl hc h
      · exact stuck_ok rfl hc h
    · rename_i n sz' at_ hch
      split at h
      · rename_i hsz
        obtain ⟨rfl, rfl, rfl, hf⟩ := hsz
        refine sem_pure _ h fun a w β I F hm he => ?_
        have h1 := ev_rel he x
        rw [hx] at h1
        simp only [Rel] at h1
        have hcs := lget_chunk hm hch
        simp only [CSat] at hcs
        obtain ⟨hl', hn, hcap, hnil, hcs⟩ := hcs
        have hi := h1.1.2
        have hi' : i < n := hi
        rw [if_neg (by omega)] at hcs
        obtain ⟨hF, cs, T, hb, _, hr⟩ := hcs
        have hin : ∀ {w'}, AgrL (ldH s (.ld none (cX x))) I F w w' → w'.heap[(β hh).blk]? = some (.cells cs T (0, 0)) := fun hw => (hw _ (.inr ⟨hh, by simp [ldH, hx], (hF _).2 rfl⟩)).trans hb
        obtain ⟨u, hu, hr, _⟩ := hr i f hi hf
        exact ⟨u, fun w' hw => fin h1.2 (by rw [cell_of (hin hw)]; exact hu), hr⟩
      · exact stuck_ok rfl hc h
    · exact stuck_ok rfl hc h
  · rename_i n sz at_ i f hx
    split at h
    · rename_i hf
      refine sem_pure _ h fun a w β I F hm he => ?_
      have h1 := ev_rel he x
      rw [hx] at h1
      simp only [Rel] at h1
      obtain ⟨hi, b, p, cs, T, fz, hv, hI, hb, hsz, hr⟩ := h1
      have hlt : p + i * sz + f < cs.size := by
        have : (i + 1) * sz ≤ n * sz := Nat.mul_le_mul_right _ hi
        rw [Nat.add_mul] at this
        omega
      refine ⟨cs[p + i * sz + f], fun w' hw => fin hv (by rw [cell_of ((hw _ (.inl hI)).trans hb)]; simp [hlt]), ?_⟩
      have := hr i f hi hf
      simpa [Rel, hlt] using this
    · exact stuck_ok rfl hc h
  · exact stuck_ok rfl hc h

theorem ok_loadN {P : Program} {o : Oper} {s : St O} {K : St O → Prop} {t : TypeId} {x : Operand} {m : Nat} (ho : o.op = .load t x) (hl : ldT P t = some (some m)) (hc : compOp P o.op = .ld (some m) (cX x))
    (h : vop std P o.dst (.ld (some m) (cX x)) s K) : SemY P o s K (ldH s (.ld (some m) (cX x))) := by
  have fin : ∀ {a : Act} {w : World} {b p : Nat} {cs : Array Value} {T : TypeId} {fz : Nat × Nat} {xs : List Value}, a.eval x = .pointer (some ⟨b, p, none⟩) → w.heap[b]? = some (.cells cs T fz) →
      xs.length = m → (∀ j v, xs[j]? = some v → cs[p + j]? = some v) → (execOp a.eval o).run P w = .ok (.value (.agg xs.toArray)) w := by
    intro a w b p cs T fz xs h1 hb hlen hcs
    simp only [execOp, ho, h1, Instr.loadAt, Instr.sureAddr]
    refine run_v ?_
    have := run_loadN (a := ⟨b, p, none⟩) (w := w) hl hlen fun j v hj => by rw [add_addr, cell_of hb]; exact hcs j v hj
    simp [this]
  simp only [vop] at h
  split at h
  · rename_i hh p hx
    split at h
    · rename_i ss hch
      split at h
      · rename_i l hv
        refine sem_pure _ h fun a w β I F hm he => ?_
        have h1 := ev_rel he x
        rw [hx] at h1
        simp only [Rel] at h1
        have hcs := lget_chunk hm hch
        simp only [CSat] at hcs
        obtain ⟨hF, ⟨hoff, _⟩, cs, T, hb, hss⟩ := hcs
        have hin : ∀ {w'}, AgrL (ldH s (.ld (some m) (cX x))) I F w w' → w'.heap[(β hh).blk]? = some (.cells cs T (0, 0)) := fun hw => (hw _ (.inr ⟨hh, by simp [ldH, hx], (hF _).2 rfl⟩)).trans hb
        obtain ⟨xs, hlen, hr, hcs⟩ := segTake_ok hss hv
        rw [hoff, Nat.zero_add] at h1
        exact ⟨_, fun w' hw => fin h1.2 (hin hw) hlen hcs, by simp only [Rel]; exact ⟨xs, rfl, hr⟩⟩
      · exact stuck_ok rfl hc h
    · exact stuck_ok rfl hc h
  · rename_i hh p i nn sz f hx
    split at h
    · rename_i ss hch
      split at h
      · rename_i n sz' at_ har
        split at h
        · rename_i hsz
          obtain ⟨rfl, rfl, hf⟩ := hsz
          refine sem_pure _ h fun a w β I F hm he => ?_
          have h1 := ev_rel he x
          rw [hx] at h1
          simp only [Rel] at h1
          have hi := h1.1.2
          have hcs := lget_chunk hm hch
          simp only [CSat] at hcs
          obtain ⟨hF, ⟨hoff, _⟩, cs, T, hb, hss⟩ := hcs
          have hin : ∀ {w'}, AgrL (ldH s (.ld (some m) (cX x))) I F w w' → w'.heap[(β hh).blk]? = some (.cells cs T (0, 0)) := fun hw => (hw _ (.inr ⟨hh, by simp [ldH, hx], (hF _).2 rfl⟩)).trans hb
          rw [hoff] at h1
          obtain ⟨xs, hlen, hr, hcs⟩ := takeAtS_ok (cs := cs) (p := 0 + p + i * sz') (n := m) (f := f) fun g _ hg => segArr_ok hss har i g hi (by omega)
          exact ⟨_, fun w' hw => fin h1.2 (hin hw) hlen hcs, by simp only [Rel]; exact ⟨xs, rfl, hr⟩⟩
        · exact stuck_ok rfl hc h
      · exact stuck_ok rfl hc h
    · rename_i n sz' at_ hch
      split at h
      · rename_i hsz
        obtain ⟨rfl, rfl, rfl, hf⟩ := hsz
        refine sem_pure _ h fun a w β I F hm he => ?_
        have h1 := ev_rel he x
        rw [hx] at h1
        simp only [Rel] at h1
        have hcs := lget_chunk hm hch
        simp only [CSat] at hcs
        obtain ⟨hl', hn, hcap, hnil, hcs⟩ := hcs
        have hi := h1.1.2
        have hi' : i < n := hi
        rw [if_neg (by omega)] at hcs
        obtain ⟨hF, cs, T, hb, _, hr⟩ := hcs
        have hin : ∀ {w'}, AgrL (ldH s (.ld (some m) (cX x))) I F w w' → w'.heap[(β hh).blk]? = some (.cells cs T (0, 0)) := fun hw => (hw _ (.inr ⟨hh, by simp [ldH, hx], (hF _).2 rfl⟩)).trans hb
        obtain ⟨xs, hlen, hr, hcs⟩ := takeAtS_ok (cs := cs) (p := (β hh).off + i * sz') (n := m) (f := f) fun g _ hg => let ⟨u, hu, hr, _⟩ := hr i g hi' (by omega); ⟨u, hu, hr⟩
        exact ⟨_, fun w' hw => fin h1.2 (hin hw) hlen hcs, by simp only [Rel]; exact ⟨xs, rfl, hr⟩⟩
      · exact stuck_ok rfl hc h
    · exact stuck_ok rfl hc h
  · rename_i n sz at_ i f hx
    split at h
    · rename_i hf
      refine sem_pure _ h fun a w β I F hm he => ?_
      have h1 := ev_rel he x
      rw [hx] at h1
      simp only [Rel] at h1
      obtain ⟨hi, b, p, cs, T, fz, hv, hI, hb, hsz, hr⟩ := h1
      have hle : (i + 1) * sz ≤ n * sz := Nat.mul_le_mul_right _ hi
      rw [Nat.add_mul] at hle
      obtain ⟨xs, hlen, hr, hcs⟩ := takeAtS_ok (β := β) (N := s.mem.length) (I := I) (w := w) (at_ := dvAt at_) (i := i) (cs := cs) (p := p + i * sz) (n := m) (f := f) fun g _ hg => by
        have hlt : p + i * sz + g < cs.size := by omega
        refine ⟨cs[p + i * sz + g], by simp [hlt], ?_⟩
        have := hr i g hi (by omega)
        simpa [Rel, dvAt, hlt] using this
      exact ⟨_, fun w' hw => fin hv ((hw _ (.inl hI)).trans hb) hlen hcs, by simp only [Rel, takeAt_eq]; exact ⟨xs, rfl, hr⟩⟩
    · exact stuck_ok rfl hc h
  · exact stuck_ok rfl hc h

end Go.V
