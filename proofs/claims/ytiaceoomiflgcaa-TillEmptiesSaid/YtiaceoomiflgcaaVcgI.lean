/-
  The conditions suffice: the state behind a store, and behind a new block.
-/
import Derived.Test.YtiaceoomiflgcaaVcgH
namespace Go.V
variable {O : Type} [Objs O]

/-- A block is written: of what is owned behind one handle. -/
theorem MSat.upd {β : Nat → HI} {I : Nat → Prop} {w w' : World} {F : Nat → Nat → Prop} {mem : List (Chunk O)} {h : Nat} {c c' : Chunk O} (hm : MSat β I w F mem) (hc : lget mem h = some c)
    (hsz : w'.heap.size = w.heap.size) (hw : ∀ b, ¬ F h b → w'.heap[b]? = w.heap[b]?) (hc' : CSat β mem.length I w' h (F h) c') : MSat β I w' F (lset mem h c') := by
  have hlen : (lset mem h c').length = mem.length := by simp [lset_eq]
  have hhl : h < mem.length := by
    rw [lget_eq] at hc
    exact (List.getElem?_eq_some_iff.1 hc).1
  refine ⟨fun k d hk => ?_, hm.apart, fun k b hk => hm.none k b (by rwa [hlen] at hk), fun k b hk => by rw [hsz]; exact hm.old k b hk, ⟨fun b hb => by rw [hsz]; exact hm.whole b hb, hm.wh.2.mono (fun _ h => h) fun b hb => hw b fun hF => (hm.old h b hF).2 hb⟩⟩
  rw [hlen]
  rw [lset_eq, List.getElem?_set] at hk
  split at hk
  · rename_i hk'
    subst hk'
    simp only [Option.some.injEq] at hk
    subst hk
    exact hc'
  · rename_i hk'
    have hkl : k < mem.length := (List.getElem?_eq_some_iff.1 hk).1
    refine (hm.chunk k d hk).mono hkl (fun _ _ => rfl) (Nat.le_refl _) (fun _ h => h) fun b hb => hw b fun hF => ?_
    rcases hb with hb | hb
    · exact (hm.old h b hF).2 hb
    · exact hk' (hm.apart h k b hF hb)

theorem Went.upd {w w' : World} {F I : Nat → Prop} {G : Nat → Prop} (hos : w'.os = w.os) (ht : w'.tape = w.tape) (ho : w'.output = w.output) (hsz : w'.heap.size = w.heap.size)
    (hw : ∀ b, ¬ G b → w'.heap[b]? = w.heap[b]?) (hG : ∀ b, G b → F b) (hf : ∀ a, w'.frozen? a = w.frozen? a) : Went w F I w' F I :=
  ⟨hos, ht, ho, Nat.le_of_eq hsz.symm, fun b _ hb => hw b fun h => hb (hG b h), fun a _ => hf a, fun _ h => h, fun _ h => .inl h, fun _ h => .inl h⟩

theorem wset_frozen {w : World} {b : Nat} {cs cs' : Array Value} {T : TypeId} {fz : Nat × Nat} (h : w.heap[b]? = some (.cells cs T fz)) (a : Addr) :
    (wset w b (.cells cs' T fz)).frozen? a = w.frozen? a := by
  unfold World.frozen?
  by_cases hk : a.block = b
  · rw [hk, wset_eq (lt_of_get h), h]
  · rw [wset_ne hk]

/-- The state behind a store into a block of one's own. -/
theorem sem_store {P : Program} {o : Oper} {s : St O} {K : St O → Prop} {hh : Nat} {c c' : Chunk O} (hc : lget s.mem hh = some c) (hK : K ((s.mset hh c').put o.dst .junk))
    (h : ∀ (a : Act) (w : World) (β : Nat → HI) (I : Nat → Prop) (F : Nat → Nat → Prop), MSat β I w F s.mem → RelL β s.mem.length I w s.env a.tmps.toList →
      ∃ cs cs' T, w.heap[(β hh).blk]? = some (.cells cs T (0, 0)) ∧ F hh (β hh).blk ∧ (execOp a.eval o).run P w = .ok .skip (wset w (β hh).blk (.cells cs' T (0, 0))) ∧
        (∀ b, F hh b → b = (β hh).blk) ∧
        CSat β s.mem.length I (wset w (β hh).blk (.cells cs' T (0, 0))) hh (F hh) c') : SemO P o s K := by
  intro fr a w hs next Q hnext
  obtain ⟨hd, β, I, F, hm, he, hw, hb, hn⟩ := hs
  obtain ⟨cs, cs', T, hblk, hF, hr, hF1, hcs⟩ := h a w β I F hm he
  have hlen : (s.mset hh c').mem.length = s.mem.length := by simp [St.mset, lset_eq]
  have hsz : (wset w (β hh).blk (.cells cs' T (0, 0))).heap.size = w.heap.size := by simp [wset]
  have hne : ∀ b, ¬ F hh b → (wset w (β hh).blk (.cells cs' T (0, 0))).heap[b]? = w.heap[b]? := fun b hb => wset_ne fun e => hb (e ▸ hF)
  rw [Oper.wp, hr]
  show next (a.put o.dst undef) _
  have hwI : ∀ k, I k → (wset w (β hh).blk (.cells cs' T (0, 0))).heap[k]? = w.heap[k]? := fun k hk => hne k fun hF => (hm.old hh k hF).2 hk
  refine hnext _ _ _ hK (mkSat (s := s.mset hh c') (β := β) (I := I) (F := F) hd ?_ ?_ ?_ hb (by rw [hlen]; exact hn) (by simp [Rel]))
  · exact hm.upd hc hsz hne hcs
  · rw [hlen]
    exact he.mono (fun _ _ => rfl) (Nat.le_refl _) (fun _ h => h) hwI
  · exact hw.trans (Went.upd (G := F hh) rfl rfl rfl hsz hne (fun b hb => ⟨hh, hb⟩) (wset_frozen hblk))

theorem ok_store {P : Program} {o : Oper} {s : St O} {K : St O → Prop} {t : TypeId} {x y : Operand} {m : Nat} (ho : o.op = .store t x y) (hn : sizeT P t = some m) (hc : compOp P o.op = .st m (cX x) (cX y))
    (h : vop std P o.dst (.st m (cX x) (cX y)) s K) : SemO P o s K := by
  have run : ∀ {a : Act} {w : World} {b p : Nat} {cs : Array Value} {T : TypeId} {vs : List Value}, a.eval x = .pointer (some ⟨b, p, none⟩) → (a.eval y).cells.toList = vs → vs.length = m →
      w.heap[b]? = some (.cells cs T (0, 0)) → p + m ≤ cs.size → (∀ v ∈ vs, v.oneCell' = true) →
      (execOp a.eval o).run P w = .ok .skip (wset w b (.cells (putA cs p vs) T (0, 0))) := by
    intro a w b p cs T vs h1 h2 h3 h4 h5 h6
    simp only [execOp, ho, h1, Instr.storeAt, Instr.sureAddr]
    have := run_storeVar (v := a.eval y) hn h2 h3 h4 h5 h6
    simp [this]
  simp only [vop] at h
  split at h
  · rename_i hh p l hx hl
    split at h
    · rename_i ss hch
      split at h
      · rename_i hall
        simp only [okSt0, Bool.and_eq_true, Bool.or_eq_true, beq_iff_eq, decide_eq_true_eq] at hall
        split at h
        · rename_i ss' hput
          refine sem_store hch h fun a w β I F hm he => ?_
          have h1 := ev_rel he x
          rw [hx] at h1
          simp only [Rel] at h1
          obtain ⟨vs, hvs, hrl⟩ := cells_rel hl (ev_rel he y)
          have hcs := lget_chunk hm hch
          simp only [CSat] at hcs
          obtain ⟨hF, hpl, cs, T, hb, hss⟩ := hcs
          rw [hpl.1, Nat.zero_add] at h1
          have hlen : vs.length = m := by rw [hrl.length]; exact hall.1.2
          have hle : p + m ≤ cs.size := by
            rcases Nat.eq_zero_or_pos m with h0 | h0
            · have : p = 0 := by omega
              omega
            · rw [← hall.1.2]
              exact segPut_le hss hput hrl fun h1 => by rw [h1] at hall; simp at hall; omega
          refine ⟨cs, _, T, hb, (hF _).2 rfl, run h1.2 hvs hlen hb hle (cells_one hall.1.1 hrl), fun b hb' => (hF b).1 hb', ?_⟩
          simp only [CSat]
          have hwI : ∀ k, I k → (wset w (β hh).blk (.cells (putA cs p vs) T (0, 0))).heap[k]? = w.heap[k]? := fun k hk => wset_ne fun e => (hm.old hh k ((hF k).2 e)).2 hk
          exact ⟨hF, hpl, _, T, wset_eq (lt_of_get hb), (segPut_ok hss hput hrl).mono (fun _ _ => rfl) (Nat.le_refl _) (fun _ h => h) hwI⟩
        · exact stuck_ok rfl hc h
      · exact stuck_ok rfl hc h
    · exact stuck_ok rfl hc h
  · rename_i hh p i nn sz f l hx hl
    split at h
    · rename_i ss hch
      split at h
      · rename_i n sz' at_ har
        split at h
        · rename_i hall
          simp only [okSt, Bool.and_eq_true, beq_iff_eq, decide_eq_true_eq] at hall
          obtain ⟨⟨⟨hall, hlm⟩, hm0⟩, rfl, rfl, hf⟩ := hall
          refine sem_store hch h fun a w β I F hm he => ?_
          have h1 := ev_rel he x
          rw [hx] at h1
          simp only [Rel] at h1
          have hi : i < n := h1.1.2
          obtain ⟨vs, hvs, hrl⟩ := cells_rel hl (ev_rel he y)
          have hcs := lget_chunk hm hch
          simp only [CSat] at hcs
          obtain ⟨hF, hpl, cs, T, hb, hss⟩ := hcs
          rw [hpl.1, Nat.zero_add] at h1
          have hlen : vs.length = m := by rw [hrl.length]; exact hlm
          have hsz : p + n * sz' ≤ cs.size := by
            obtain ⟨u, hu, _⟩ := segArr_ok hss har (n - 1) (sz' - 1) (by omega) (by omega)
            rw [Nat.zero_add] at hu
            have := (Array.getElem?_eq_some_iff.1 hu).1
            have h3 : (n - 1) * sz' + sz' = n * sz' := by rw [← Nat.succ_mul]; congr 1; omega
            omega
          have hmul : (i + 1) * sz' ≤ n * sz' := Nat.mul_le_mul_right _ hi
          rw [Nat.add_mul] at hmul
          refine ⟨cs, _, T, hb, (hF _).2 rfl, run h1.2 hvs hlen hb (by omega) (cells_one hall hrl), fun b hb' => (hF b).1 hb', ?_⟩
          simp only [CSat]
          have hwI : ∀ k, I k → (wset w (β hh).blk (.cells (putA cs (p + i * sz' + f) vs) T (0, 0))).heap[k]? = w.heap[k]? := fun k hk => wset_ne fun e => (hm.old hh k ((hF k).2 e)).2 hk
          refine ⟨hF, hpl, _, T, wset_eq (lt_of_get hb), (segArrSet_ok hss har (q := p + i * sz' + f) (by omega) (by omega) ?_).mono (fun _ _ => rfl) (Nat.le_refl _) (fun _ h => h) hwI⟩
          have har' := segArr_ok hss har
          simp only [Nat.zero_add] at har' ⊢
          exact updRow_ok har' hrl hi hf hsz
        · exact stuck_ok rfl hc h
      · exact stuck_ok rfl hc h
    · rename_i n sz' at_ hch
      split at h
      · rename_i hall
        simp only [okSt, Bool.and_eq_true, beq_iff_eq, decide_eq_true_eq] at hall
        obtain ⟨⟨⟨hall, hlm⟩, hm0⟩, rfl, rfl, rfl, hf⟩ := hall
        refine sem_store hch h fun a w β I F hm he => ?_
        have h1 := ev_rel he x
        rw [hx] at h1
        simp only [Rel] at h1
        have hi : i < n := h1.1.2
        obtain ⟨vs, hvs, hrl⟩ := cells_rel hl (ev_rel he y)
        have hcs := lget_chunk hm hch
        simp only [CSat] at hcs
        obtain ⟨hl', hn', hcap, hnil, hcs⟩ := hcs
        have hc0 : (β hh).cap ≠ 0 := by omega
        rw [if_neg hc0] at hcs
        obtain ⟨hF, cs, T, hb, hsz, hr⟩ := hcs
        have hlen : vs.length = m := by rw [hrl.length]; exact hlm
        have hmul : (i + 1) * sz' ≤ n * sz' := Nat.mul_le_mul_right _ hi
        have hmul2 : n * sz' ≤ (β hh).cap * sz' := Nat.mul_le_mul_right _ hcap
        rw [Nat.add_mul] at hmul
        refine ⟨cs, _, T, hb, (hF _).2 rfl, run h1.2 hvs hlen hb (by omega) (cells_one hall hrl), fun b hb' => (hF b).1 hb', ?_⟩
        have hwI : ∀ k, I k → (wset w (β hh).blk (.cells (putA cs ((β hh).off + 0 + i * sz' + f) vs) T (0, 0))).heap[k]? = w.heap[k]? := fun k hk => wset_ne fun e => (hm.old hh k ((hF k).2 e)).2 hk
        simp only [CSat]
        refine ⟨hl', hn', hcap, hnil, ?_⟩
        rw [if_neg hc0]
        refine ⟨hF, _, T, wset_eq (lt_of_get hb), by rw [putA_size]; exact hsz, fun j g hj hg => ?_⟩
        obtain ⟨u, hu, hru⟩ := updRow_ok (fun i f hi hf => let ⟨x, hx, hr, _⟩ := hr i f hi hf; ⟨x, hx, hr⟩) hrl hi hf (by omega) j g hj hg
        refine ⟨u, by rw [Nat.add_zero]; exact hu, hru.mono (fun _ _ => rfl) (Nat.le_refl _) (fun _ h => h) hwI, ?_⟩
        by_cases hin : (β hh).off + i * sz' + f ≤ (β hh).off + j * sz' + g ∧ (β hh).off + j * sz' + g < (β hh).off + i * sz' + f + vs.length
        · obtain ⟨k, hk⟩ : ∃ k, vs[(β hh).off + j * sz' + g - ((β hh).off + i * sz' + f)]? = some k := ⟨_, List.getElem?_eq_getElem (by omega)⟩
          have := putA_at vs cs ((β hh).off + i * sz' + f) _ k (by omega) hk
          rw [Nat.add_sub_cancel' hin.1, hu] at this
          simp only [Option.some.injEq] at this
          rw [this]
          exact cells_one hall hrl k (List.mem_of_getElem? hk)
        · rw [putA_get _ _ _ _ (by omega)] at hu
          obtain ⟨x, hx, _, h1⟩ := hr j g hj hg
          rw [hu] at hx
          simp only [Option.some.injEq] at hx
          rw [hx]
          exact h1
      · exact stuck_ok rfl hc h
    · exact stuck_ok rfl hc h
  · exact stuck_ok rfl hc h

end Go.V
