/-
  The conditions suffice: operations that only reckon, or read.
-/
import Derived.Test.YtiaceoomiflgcaaVcgD
namespace Go.V
variable {O : Type} [Objs O]

theorem mkSat {fr : Fr} {s : St O} {a : Act} {w : World} {β : Nat → HI} {I : Nat → Prop} {F : Nat → Nat → Prop} {d : Option Nat} {sv : SV} {v : Value}
    (hd : a.defers = []) (hm : MSat β I w F s.mem) (he : RelL β s.mem.length I w s.env a.tmps.toList) (hw : Went fr.w fr.F fr.I w (fun b => ∃ h, F h b) I)
    (hb : ∀ h, h < fr.n → β h = fr.β h) (hn : fr.n ≤ s.mem.length) (hv : Rel β s.mem.length I w sv v) : Sat fr (s.put d sv) (a.put d v) w :=
  ⟨by rw [put_defers]; exact hd, β, I, F, by rw [put_mem]; exact hm, by rw [put_mem]; exact put_rel he hv, hw, hb, by rw [put_mem]; exact hn⟩

theorem wp_val {P : Program} {o : Oper} {a : Act} {w w' : World} {v : Value} {next : Act → World → Prop} {Q : Exit → Act → World → Prop}
    (h : (execOp a.eval o).run P w = .ok (.value v) w') (hn : next (a.put o.dst v) w') : o.wp P a w next Q := by
  rw [Oper.wp, h]
  exact hn

theorem run_v {P : Program} {w w' : World} {x : Value} {m : Sem Value} (h : m.run P w = .ok x w') : ((do pure (.value (← m))) : Sem Next).run P w = .ok (.value x) w' := by
  rw [Sem.run_bind, h]
  rfl

theorem SemY.semO {P : Program} {o : Oper} {s : St O} {K : St O → Prop} {L : List Nat} (h : SemY P o s K L) : SemO P o s K := by
  intro fr a w hs next Q hnext
  obtain ⟨hd, β, I, F, hm, he, hw, hb, hn⟩ := hs
  obtain ⟨v, sv, hr, hv, hK⟩ := h a w β I F hm he
  exact wp_val (hr w (AgrL.refl _ _ _ _)) (hnext _ _ _ hK (mkSat hd hm he hw hb hn hv))

theorem SemZ.semO {P : Program} {i : Ins} {o : Oper} {s : St O} {K : St O → Prop} (h : SemZ P i o s K) : SemO P o s K := by
  unfold SemZ at h
  split at h
  · exact SemY.semO h
  · exact h

/-- An operation that leaves the world as it is, and tells a value. -/
theorem sem_pure {P : Program} {o : Oper} {s : St O} {K : St O → Prop} {L : List Nat} (sv : SV) (hK : K (s.put o.dst sv))
    (h : ∀ (a : Act) (w : World) (β : Nat → HI) (I : Nat → Prop) (F : Nat → Nat → Prop), MSat β I w F s.mem → RelL β s.mem.length I w s.env a.tmps.toList →
      ∃ v, (∀ w', AgrL L I F w w' → (execOp a.eval o).run P w' = .ok (.value v) w') ∧ Rel β s.mem.length I w sv v) : SemY P o s K L := by
  intro a w β I F hm he
  obtain ⟨v, hr, hv⟩ := h a w β I F hm he
  exact ⟨v, sv, hr, hv, hK⟩

theorem stuck_ok {P : Program} {o : Oper} {s : St O} {K : St O → Prop} {d : Option Nat} {i : Ins} (hd : o.dst = d) (hi : compOp P o.op = i) (h : Stuck P d i s K) : SemZ P i o s K :=
  h.h o hd hi

theorem ok_move {P : Program} {o : Oper} {s : St O} {K : St O → Prop} {x : Operand} (ho : o.op = .move x ∨ o.op = .assign x) (h : K (s.put o.dst (s.ev (cX x)))) : SemY P o s K [] := by
  refine sem_pure _ h fun a w β I F hm he => ⟨a.eval x, fun w' _ => ?_, ev_rel he x⟩
  rcases ho with ho | ho <;> simp [execOp, ho]

theorem ok_pick {P : Program} {o : Oper} {s : St O} {K : St O → Prop} {c x y : Operand} (ho : o.op = .pick c x y) (h : vop std P o.dst (.pick (cX c) (cX x) (cX y)) s K) : SemY P o s K [] := by
  simp only [vop] at h
  split at h
  · rename_i t ht
    cases t with
    | true =>
      refine sem_pure _ h fun a w β I F hm he => ⟨a.eval x, fun w' _ => ?_, ev_rel he x⟩
      have hc := ev_rel he c
      rw [ht] at hc
      simp only [Rel, DRel] at hc
      simp [execOp, ho, hc, asBool]
    | false =>
      refine sem_pure _ h fun a w β I F hm he => ⟨a.eval y, fun w' _ => ?_, ev_rel he y⟩
      have hc := ev_rel he c
      rw [ht] at hc
      simp only [Rel, DRel] at hc
      simp [execOp, ho, hc, asBool]
  · exact stuck_ok rfl (by rw [ho]; rfl) h

theorem run_bin {P : Program} {w : World} {op : BinOp} {t : TypeId} {x y : Operand} {k k' : IntKind} {a b : Int} (hk : isShift op = true ∨ k = k') :
    (binK op = .arith → ((do eqGuard op t x y (.int k a) (.int k' b); binOp op t (.int k a) (.int k' b)) : Sem Value).run P w = .ok (.int k (binI op k a b)) w) ∧
    (binK op = .div → b ≠ 0 → ((do eqGuard op t x y (.int k a) (.int k' b); binOp op t (.int k a) (.int k' b)) : Sem Value).run P w = .ok (.int k (binI op k a b)) w) ∧
    (binK op = .shift → 0 ≤ b → ((do eqGuard op t x y (.int k a) (.int k' b); binOp op t (.int k a) (.int k' b)) : Sem Value).run P w = .ok (.int k (binI op k a b)) w) ∧
    (binK op = .cmp → ((do eqGuard op t x y (.int k a) (.int k' b); binOp op t (.int k a) (.int k' b)) : Sem Value).run P w = .ok (.bool (cmpI op a b)) w) := by
  cases op <;> simp [binK, isShift] at hk ⊢ <;> (try subst hk) <;>
    simp [eqGuard, binOp, Op.intArith, Op.intBits, Op.intDiv, Op.shift, Op.intCmp, binI, cmpI] <;> (intros; exfalso; omega)

theorem ok_bin {P : Program} {o : Oper} {s : St O} {K : St O → Prop} {op : BinOp} {t t' : TypeId} {x y : Operand} (ho : o.op = .binOp op t x y t') (hc : compOp P o.op = .bin op (cX x) (cX y))
    (h : vop std P o.dst (.bin op (cX x) (cX y)) s K) : SemY P o s K [] := by
  simp only [vop] at h
  split at h
  · rename_i k a k' b hx hy
    split at h
    · rename_i hk
      have hk' : isShift op = true ∨ k = k' := by
        rw [Bool.or_eq_true] at hk
        exact hk.imp id ikEq_eq
      have key : ∀ (ac : Act) (w : World) (β : Nat → HI) (I : Nat → Prop), RelL β s.mem.length I w s.env ac.tmps.toList → ac.eval x = .int k a ∧ ac.eval y = .int k' b := by
        intro ac w β I he
        have h1 := ev_rel he x
        have h2 := ev_rel he y
        rw [hx] at h1
        rw [hy] at h2
        simpa only [Rel, DRel] using And.intro h1 h2
      have fin : ∀ (sv : SV) (v : Value), K (s.put o.dst sv) → (∀ (β : Nat → HI) (N : Nat) (I : Nat → Prop) (w : World), Rel β N I w sv v) →
          (∀ w, ((do eqGuard op t x y (.int k a) (.int k' b); binOp op t (.int k a) (.int k' b)) : Sem Value).run P w = .ok v w) → SemY P o s K [] := by
        intro sv v hK hv hr
        refine sem_pure sv hK fun ac w β I F hm he => ⟨v, fun w' _ => ?_, hv _ _ _ _⟩
        obtain ⟨e1, e2⟩ := key ac w β I he
        simp only [execOp, ho, e1, e2]
        exact run_v (hr w')
      unfold vbin at h
      split at h
      · rename_i hb; exact fin _ _ h (fun _ _ _ _ => by simp [Rel, DRel]; rfl) fun w => (run_bin hk').1 hb
      · rename_i hb; exact fin _ _ h.k (fun _ _ _ _ => by simp [Rel, DRel]; rfl) fun w => (run_bin hk').2.1 hb h.h
      · rename_i hb; exact fin _ _ h.k (fun _ _ _ _ => by simp [Rel, DRel]; rfl) fun w => (run_bin hk').2.2.1 hb h.h
      · rename_i hb; exact fin _ _ h (fun _ _ _ _ => by simp [Rel, DRel]; rfl) fun w => (run_bin hk').2.2.2 hb
    · exact stuck_ok rfl hc h
  · exact stuck_ok rfl hc h

theorem ok_un {P : Program} {o : Oper} {s : St O} {K : St O → Prop} {op : UnOp} {t : TypeId} {x : Operand} (ho : o.op = .unOp op t x) (h : vop std P o.dst (.un op (cX x)) s K) : SemY P o s K [] := by
  simp only [vop] at h
  split at h
  · rename_i b hx
    refine sem_pure _ h fun a w β I F hm he => ⟨.bool !b, fun w' _ => ?_, by simp [Rel, DRel, std]⟩
    have h1 := ev_rel he x
    rw [hx] at h1
    simp only [Rel, DRel] at h1
    simp [execOp, ho, h1, Op.unary]
  · rename_i k n hx
    refine sem_pure _ h fun a w β I F hm he => ⟨.int k (unI .neg k n), fun w' _ => ?_, by simp [Rel, DRel, std]⟩
    have h1 := ev_rel he x
    rw [hx] at h1
    simp only [Rel, DRel] at h1
    simp [execOp, ho, h1, Op.unary, Op.intArith, unI]
  · rename_i k n hx
    refine sem_pure _ h fun a w β I F hm he => ⟨.int k (unI .xor k n), fun w' _ => ?_, by simp [Rel, DRel, std]⟩
    have h1 := ev_rel he x
    rw [hx] at h1
    simp only [Rel, DRel] at h1
    simp [execOp, ho, h1, Op.unary, Op.intBits, unI]
  · exact stuck_ok rfl (by rw [ho]; rfl) h

@[simp] theorem run_underlying' {P : Program} {t : TypeId} {d : TypeDesc} {w : World} (h : P.underlying t = some d) : (underlying t).run P w = .ok d w := by
  simp [underlying, h]

theorem ok_conv {P : Program} {o : Oper} {s : St O} {K : St O → Prop} {t t' : TypeId} {k : IntKind} {x : Operand} (ho : o.op = .convert t t' x) (hu : P.underlying t' = some (.int k)) (hs : (P.underlying t).isSome)
    (hc : compOp P o.op = .conv k (cX x)) (h : vop std P o.dst (.conv k (cX x)) s K) : SemY P o s K [] := by
  simp only [vop] at h
  split at h
  · rename_i k' n hx
    refine sem_pure _ h fun a w β I F hm he => ⟨.int k (k.wrap n), fun w' _ => ?_, by simp [Rel, DRel, std]⟩
    have h1 := ev_rel he x
    rw [hx] at h1
    simp only [Rel, DRel] at h1
    obtain ⟨d, hd⟩ := Option.isSome_iff_exists.1 hs
    simp [execOp, ho, h1, convert, run_underlying' hu, run_underlying' hd, Conv.intToInt]
  · exact stuck_ok rfl hc h

theorem add_addr (b o n : Nat) : (⟨b, o, none⟩ : Addr).add n = ⟨b, o + n, none⟩ := by
  unfold Addr.add
  split
  · rename_i h; subst h; rfl
  · rfl

theorem fieldT_spec {P : Program} {s : TypeId} {f off : Nat} {t : TypeId} (h : fieldT P s f = some (off, t)) :
    ∃ fs x, P.underlying s = some (.struct fs) ∧ fs[f]? = some x ∧ x.offset = off ∧ x.type = t := by
  unfold fieldT at h
  split at h
  · rename_i fs hu
    split at h
    · rename_i x hx
      simp only [Option.some.injEq, Prod.mk.injEq] at h
      exact ⟨fs, x, hu, hx, h.1, h.2⟩
    · cases h
  · cases h

theorem sizeT_spec {P : Program} {t : TypeId} {n : Nat} (h : sizeT P t = some n) : ∃ i, P.info? t = some i ∧ i.size = n := by
  simpa [sizeT] using h

theorem run_sizeOf {P : Program} {t : TypeId} {n : Nat} {w : World} (h : sizeT P t = some n) : (sizeOf t).run P w = .ok n w := by
  obtain ⟨i, hi, rfl⟩ := sizeT_spec h
  simp [sizeOf, typeInfo, hi]

theorem ok_fieldAddr {P : Program} {o : Oper} {s : St O} {K : St O → Prop} {t : TypeId} {x : Operand} {f off n : Nat} {u : TypeId} (ho : o.op = .fieldAddr t x f) (hf : fieldT P t f = some (off, u))
    (hn : sizeT P u = some n) (h0 : n ≠ 0) (hc : compOp P o.op = .fldA off (cX x)) (h : vop std P o.dst (.fldA off (cX x)) s K) : SemY P o s K [] := by
  obtain ⟨fs, fd, hu, hfd, hoff, hty⟩ := fieldT_spec hf
  have run : ∀ (b p : Nat) (w : World), (Instr.fieldAt t (.pointer (some ⟨b, p, none⟩)) f).run P w = .ok (.pointer (some ⟨b, p + off, none⟩)) w := by
    intro b p w
    simp [Instr.fieldAt, run_underlying' hu, hfd, Instr.sureAddr, fieldPlace, hty, run_sizeOf hn, h0, hoff, add_addr]
  simp only [vop] at h
  split at h
  · rename_i hh p hx
    refine sem_pure _ h fun a w β I F hm he => ?_
    have h1 := ev_rel he x
    rw [hx] at h1
    simp only [Rel] at h1
    refine ⟨_, fun w' _ => by simp only [execOp, ho, h1.2]; exact run_v (run _ _ _), ?_⟩
    simp only [Rel]
    exact ⟨h1.1, by rw [Nat.add_assoc]⟩
  · rename_i hh p i nn sz g hx
    refine sem_pure _ h fun a w β I F hm he => ?_
    have h1 := ev_rel he x
    rw [hx] at h1
    simp only [Rel] at h1
    refine ⟨_, fun w' _ => by simp only [execOp, ho, h1.2]; exact run_v (run _ _ _), ?_⟩
    simp only [Rel]
    exact ⟨h1.1, by rw [Nat.add_assoc]⟩
  · rename_i m sz at_ i g hx
    refine sem_pure _ h fun a w β I F hm he => ?_
    have h1 := ev_rel he x
    rw [hx] at h1
    simp only [Rel] at h1
    obtain ⟨hi, b, p, cs, T, fz, hv, hb⟩ := h1
    refine ⟨_, fun w' _ => by simp only [execOp, ho, hv]; exact run_v (run _ _ _), ?_⟩
    simp only [Rel]
    exact ⟨hi, b, p, cs, T, fz, by rw [Nat.add_assoc], hb⟩
  · exact stuck_ok rfl hc h

theorem ok_indexArr {P : Program} {o : Oper} {s : St O} {K : St O → Prop} {t e : TypeId} {x y : Operand} {n sz : Nat} (ho : o.op = .indexAddr t x y) (hu : P.underlying t = some (.array n e))
    (hs : sizeT P e = some sz) (hc : compOp P o.op = .idxA n sz (cX x) (cX y)) (h : vop std P o.dst (.idxA n sz (cX x) (cX y)) s K) : SemY P o s K [] := by
  simp only [vop] at h
  split at h
  · rename_i hh p k i hx hy
    obtain ⟨hi, h⟩ := h
    replace h := h _ rfl (by have hi' : 0 ≤ i ∧ i < (n : Int) := hi; show i.toNat < n; omega)
    refine sem_pure _ h fun a w β I F hm he => ?_
    have h1 := ev_rel he x
    have h2 := ev_rel he y
    rw [hx] at h1
    rw [hy] at h2
    simp only [Rel, DRel] at h1 h2
    have hi' : 0 ≤ i ∧ i < (n : Int) := hi
    refine ⟨.pointer (some ⟨(β hh).blk, (β hh).off + p + i.toNat * sz, none⟩), fun w' _ => ?_, ?_⟩
    · simp only [execOp, ho, h1.2, h2]
      refine run_v ?_
      simp [Instr.indexAt, asIntOf, run_underlying' hu, Instr.sureAddr, hi', run_sizeOf hs, add_addr]
    · simp only [Rel]
      exact ⟨⟨h1.1, by show i.toNat < n; omega⟩, rfl⟩
  · rename_i gg k i hx hy
    split at h
    · rename_i n' sz' at_ hgd
      split at h
      · rename_i hn
        obtain ⟨rfl, rfl⟩ := hn
        obtain ⟨hi, h⟩ := h
        replace h := h _ rfl (by have hi' : 0 ≤ i ∧ i < (n' : Int) := hi; show i.toNat < n'; omega)
        refine sem_pure _ h fun a w β I F hm he => ?_
        have h1 := ev_rel he x
        have h2 := ev_rel he y
        rw [hx] at h1
        rw [hy] at h2
        simp only [Rel, DRel] at h1 h2
        have hi' : 0 ≤ i ∧ i < (n' : Int) := hi
        obtain ⟨hI, cs, ty, fz, hb, hsz, hr⟩ := hm.wh.2 gg n' sz' at_ hgd
        refine ⟨.pointer (some ⟨gg, i.toNat * sz', none⟩), fun w' _ => ?_, ?_⟩
        · simp only [execOp, ho, h1, h2]
          refine run_v ?_
          simp [Instr.indexAt, asIntOf, run_underlying' hu, Instr.sureAddr, hi', run_sizeOf hs, add_addr]
        · simp only [Rel]
          exact ⟨by show i.toNat < n'; omega, gg, 0, cs, ty, fz, by simp [std], hI, hb, by rw [Nat.zero_add]; exact Nat.le_of_eq hsz.symm, fun i f hi hf => by rw [Nat.zero_add]; exact hr i f hi hf⟩
      · exact stuck_ok rfl hc h
    · exact stuck_ok rfl hc h
  · exact stuck_ok rfl hc h

theorem lget_chunk {β : Nat → HI} {I : Nat → Prop} {w : World} {F : Nat → Nat → Prop} {mem : List (Chunk O)} {h : Nat} {c : Chunk O} (hm : MSat β I w F mem) (hc : lget mem h = some c) :
    CSat β mem.length I w h (F h) c := hm.chunk h c (by rw [← lget_eq]; exact hc)

theorem ok_indexSl {P : Program} {o : Oper} {s : St O} {K : St O → Prop} {t e : TypeId} {x y : Operand} {sz : Nat} (ho : o.op = .indexAddr t x y) (hu : P.underlying t = some (.slice e))
    (hs : sizeT P e = some sz) (hc : compOp P o.op = .idxS sz (cX x) (cX y)) (h : vop std P o.dst (.idxS sz (cX x) (cX y)) s K) : SemY P o s K [] := by
  simp only [vop] at h
  split at h
  · rename_i hh k i hx hy
    split at h
    · rename_i n sz' at_ hch
      obtain ⟨hi, h⟩ := h
      replace h := h _ rfl (by have hi' : 0 ≤ i ∧ i < (n : Int) := hi; show i.toNat < n; omega)
      refine sem_pure _ h fun a w β I F hm he => ?_
      have h1 := ev_rel he x
      have h2 := ev_rel he y
      rw [hx] at h1
      rw [hy] at h2
      simp only [Rel, DRel] at h1 h2
      have hi' : 0 ≤ i ∧ i < (n : Int) := hi
      have hcs := lget_chunk hm hch
      simp only [CSat] at hcs
      obtain ⟨hl, hn, hcap, hnil, hcs⟩ := hcs
      have hnf : (β hh).nil = false := by
        cases hb : (β hh).nil
        · rfl
        · have := hnil hb; omega
      refine ⟨.pointer (some ⟨(β hh).blk, (β hh).off + i.toNat * sz, none⟩), fun w' _ => ?_, ?_⟩
      · simp only [execOp, ho, h1.2, h2, HI.adr_some hnf (by omega), hl]
        refine run_v ?_
        simp [Instr.indexAt, asIntOf, run_underlying' hu, hi', run_sizeOf hs, add_addr]
      · simp only [Rel]
        exact ⟨⟨h1.1, by show i.toNat < n; omega⟩, by simp [std]⟩
    · exact stuck_ok rfl hc h
  · rename_i n sz' at_ k i hx hy
    split at h
    · rename_i hsz
      subst hsz
      obtain ⟨hi, h⟩ := h
      replace h := h _ rfl (by have hi' : 0 ≤ i ∧ i < (n : Int) := hi; show i.toNat < n; omega)
      refine sem_pure _ h fun a w β I F hm he => ?_
      have h1 := ev_rel he x
      have h2 := ev_rel he y
      rw [hx] at h1
      rw [hy] at h2
      simp only [Rel, DRel] at h1 h2
      have hi' : 0 ≤ i ∧ i < (n : Int) := hi
      obtain ⟨ad, cap, hv, hn, hcap, h1⟩ := h1
      obtain ⟨b, p, cs, T, fz, rfl, hI, hb, hsz, hr⟩ := h1 (by omega)
      refine ⟨.pointer (some ⟨b, p + i.toNat * sz', none⟩), fun w' _ => ?_, ?_⟩
      · simp only [execOp, ho, hv, h2]
        refine run_v ?_
        simp [Instr.indexAt, asIntOf, run_underlying' hu, hi', run_sizeOf hs, add_addr]
      · simp only [Rel]
        exact ⟨by simp only [std]; omega, b, p, cs, T, fz, rfl, hI, hb, hsz, hr⟩
    · exact stuck_ok rfl hc h
  · rename_i hh lo n c sz' k i hx hy
    split at h
    · rename_i N sz'' at_ hch
      split at h
      · rename_i hsz
        subst hsz
        obtain ⟨hle, hi, h⟩ := h
        have hi' : 0 ≤ i ∧ i < (n : Int) := hi
        have hle' : lo + n ≤ N := hle
        replace h := h _ rfl (by show i.toNat < n; omega)
        refine sem_pure _ h fun a w β I F hm he => ?_
        have h1 := ev_rel he x
        have h2 := ev_rel he y
        rw [hx] at h1
        rw [hy] at h2
        simp only [Rel, DRel] at h1 h2
        obtain ⟨hN, hn, ad, k', hv, hnk, hlk, hcm, hcn, had⟩ := h1
        obtain ⟨hnf, rfl⟩ := had (by omega)
        refine ⟨.pointer (some ⟨(β hh).blk, (β hh).off + lo * sz' + i.toNat * sz', none⟩), fun w' _ => ?_, ?_⟩
        · simp only [execOp, ho, hv, h2]
          refine run_v ?_
          simp [Instr.indexAt, asIntOf, run_underlying' hu, hi', run_sizeOf hs, add_addr]
        · simp only [Rel]
          refine ⟨⟨hN, by show lo + i.toNat < N; omega⟩, ?_⟩
          simp only [std, Nat.add_mul, Nat.add_zero, Nat.add_assoc]
      · exact stuck_ok rfl hc h
    · exact stuck_ok rfl hc h
  · exact stuck_ok rfl hc h

end Go.V
