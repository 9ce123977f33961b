/-
  The conditions suffice: any operation.
-/
import Derived.Test.YtiaceoomiflgcaaVchB
namespace Go.V
variable {O : Type} [Objs O]

theorem stuckZ {P : Program} {o : Oper} {s : St O} {K : St O → Prop} {i : Ins} (hi : compOp P o.op = i) (h : Stuck P o.dst i s K) : SemZ P (compOp P o.op) o s K := by
  rw [hi]; exact stuck_ok rfl hi h

theorem earlyZ {P : Program} {o : Oper} {s : St O} {K : St O → Prop} {i : Ins} (hi : compOp P o.op = i) (he : early i = true) (h : SemY P o s K (ldH s i)) : SemZ P (compOp P o.op) o s K := by
  rw [hi, SemZ, he]; exact h

theorem lateZ {P : Program} {o : Oper} {s : St O} {K : St O → Prop} {i : Ins} (hi : compOp P o.op = i) (he : early i = false) (h : SemO P o s K) : SemZ P (compOp P o.op) o s K := by
  rw [hi, SemZ, he]; exact h

theorem otherZ {P : Program} {o : Oper} {s : St O} {K : St O → Prop} (hc : compOp P o.op = .other) (h : vop std P o.dst (compOp P o.op) s K) : SemZ P (compOp P o.op) o s K :=
  stuckZ hc (by rw [hc] at h; simpa only [vop] using h)

theorem vop_sound {P : Program} (o : Oper) (s : St O) (K : St O → Prop) (h : vop std P o.dst (compOp P o.op) s K) : SemZ P (compOp P o.op) o s K := by
  obtain ⟨op0, hop⟩ : ∃ x, o.op = x := ⟨_, rfl⟩
  cases op0 with
  | move x => rw [hop] at h; exact earlyZ (i := .mov (cX x)) (by rw [hop]; rfl) rfl (ok_move (.inl hop) h)
  | assign x => rw [hop] at h; exact earlyZ (i := .mov (cX x)) (by rw [hop]; rfl) rfl (ok_move (.inr hop) h)
  | pick c x y => rw [hop] at h; exact earlyZ (i := .pick (cX c) (cX x) (cX y)) (by rw [hop]; rfl) rfl (ok_pick hop h)
  | binOp bop t x y t' =>
    cases hp : puOf P bop t with
    | some p =>
      have hc : compOp P o.op = .pu p [cX x, cX y] := by rw [hop]; simp [compOp, hp]
      exact earlyZ hc rfl (ok_puBin hop hp hc (by rw [← hc]; exact h))
    | none =>
      cases hq : eqaOf P bop t with
      | some q =>
        obtain ⟨n, neg⟩ := q
        have hc : compOp P o.op = .eqa t n neg (cX x) (cX y) := by rw [hop]; simp [compOp, hp, hq]
        have hneg : bop = (if neg then .neq else .eql) := by
          unfold eqaOf at hq
          split at hq
          · simp only [Option.some.injEq, Prod.mk.injEq] at hq; rw [← hq.2]; rfl
          · simp only [Option.some.injEq, Prod.mk.injEq] at hq; rw [← hq.2]; rfl
          · cases hq
        exact earlyZ hc rfl (ok_eqa (by rw [hop, hneg]) hc (by rw [← hc]; exact h))
      | none =>
        have hbin : compOp P o.op = .bin bop (cX x) (cX y) → SemZ P (compOp P o.op) o s K := fun hc => earlyZ hc rfl (ok_bin hop hc (by rw [← hc]; exact h))
        cases hk : ekT P t with
        | none => exact hbin (by rw [hop]; simp only [compOp, hp, hq, hk])
        | some k =>
          by_cases h1 : bop = .eql
          · subst h1
            have hc : compOp P o.op = .eqn k false (cX x) (cX y) := by rw [hop]; simp only [compOp, hp, hq, hk]
            exact earlyZ hc rfl (ok_eqn (neg := false) hop hk hc (by rw [← hc]; exact h))
          · by_cases h2 : bop = .neq
            · subst h2
              have hc : compOp P o.op = .eqn k true (cX x) (cX y) := by rw [hop]; simp only [compOp, hp, hq, hk]
              exact earlyZ hc rfl (ok_eqn (neg := true) hop hk hc (by rw [← hc]; exact h))
            · exact hbin (by rw [hop]; cases bop <;> first | exact (h1 rfl).elim | exact (h2 rfl).elim | simp only [compOp, hp, hq])
  | unOp op t x => rw [hop] at h; exact earlyZ (i := .un op (cX x)) (by rw [hop]; rfl) rfl (ok_un hop h)
  | convert t0 t x =>
    cases hp : cvOf P t0 t with
    | some p =>
      have hc : compOp P o.op = .pu p [cX x] := by rw [hop]; simp [compOp, hp]
      exact earlyZ hc rfl (ok_puConv hop hp hc (by rw [← hc]; exact h))
    | none =>
      cases hd : P.underlying t0 with
      | none => exact otherZ (by rw [hop]; simp [compOp, hp, hd]) h
      | some d0 =>
        cases hk : P.underlying t with
        | none => exact otherZ (by rw [hop]; simp [compOp, hp, hk]) h
        | some d =>
          cases d with
          | int k =>
            have hc : compOp P o.op = .conv k (cX x) := by rw [hop]; simp [compOp, hp, hk, hd]
            exact earlyZ hc rfl (ok_conv hop hk (by rw [hd]; rfl) hc (by rw [← hc]; exact h))
          | _ => exact otherZ (by rw [hop]; simp [compOp, hp, hk]) h
  | index t x i =>
    cases hu : P.underlying t with
    | none => exact otherZ (by rw [hop]; simp [compOp, hu]) h
    | some d =>
      cases d with
      | string =>
        have hc : compOp P o.op = .pu .sidx [cX x, cX i] := by rw [hop]; simp [compOp, hu]
        exact earlyZ hc rfl (ok_index hop hu hc (by rw [← hc]; exact h))
      | array n e =>
        have hcc : compOp P o.op = (match P.underlying e with | some (.int _) => (match ldT P e, sizeT P e with | some none, some 1 => .idxV n (cX x) (cX i) | _, _ => .other) | _ => .other) := by
          rw [hop]; simp only [compOp, hu]; rfl
        split at hcc
        · rename_i ik hue
          split at hcc
          · rename_i hl hs
            exact earlyZ hcc rfl (ok_idxV hop hu hue hl hs hcc (by rw [← hcc]; exact h))
          · exact otherZ hcc h
        · exact otherZ hcc h
      | _ => exact otherZ (by rw [hop]; simp [compOp, hu]) h
  | makeSlice t n c =>
    cases hu : P.underlying t with
    | none => exact otherZ (by rw [hop]; simp [compOp, hu]) h
    | some d =>
      cases d with
      | slice e =>
        cases hs : sizeT P e with
        | none => exact otherZ (by rw [hop]; simp [compOp, hu, hs]) h
        | some sz =>
          cases hb : bytesT P e with
          | none => exact otherZ (by rw [hop]; simp [compOp, hu, hs, hb]) h
          | some b =>
            cases hz : zeroT P e with
            | none => exact otherZ (by rw [hop]; simp [compOp, hu, hs, hb, hz]) h
            | some z =>
              by_cases hcond : z.length = sz ∧ 0 < sz ∧ 0 < b
              · have hc : compOp P o.op = .mks sz b z (cX n) (cX c) := by rw [hop]; simp only [compOp, hu, hs, hb, hz, if_pos hcond]
                exact lateZ hc rfl (ok_makeSlice hop hu hs hb hz hcond.1 hcond.2.1 hc (by rw [← hc]; exact h))
              · exact otherZ (by rw [hop]; simp only [compOp, hu, hs, hb, hz, if_neg hcond]) h
      | _ => exact otherZ (by rw [hop]; simp [compOp, hu]) h
  | typeAssert x t0 t ok =>
    cases hu : P.underlying t with
    | none => exact otherZ (by rw [hop]; simp [compOp, hu]) h
    | some d =>
      by_cases hd : ∃ m, d = .interface m
      · obtain ⟨m, rfl⟩ := hd
        exact otherZ (by rw [hop]; simp [compOp, hu]) h
      · cases hz : zero1T P t with
        | none => exact otherZ (by rw [hop]; cases d <;> simp [compOp, hu, hz]) h
        | some z =>
          have hc : compOp P o.op = .tas t z ok (cX x) := by
            rw [hop]
            cases d with
            | interface m => exact (hd ⟨m, rfl⟩).elim
            | _ => simp [compOp, hu, hz]
          exact earlyZ hc rfl (ok_tas hop hu (fun m hm => hd ⟨m, hm⟩) hz hc (by rw [← hc]; exact h))
  | fieldAddr t x f =>
    rw [hop] at h
    have hc0 : compOp P o.op = compOp P (.fieldAddr t x f) := by rw [hop]
    obtain ⟨C, hC⟩ : ∃ C, compOp P o.op = C := ⟨_, rfl⟩
    rw [hC] at hc0
    simp only [compOp] at h hc0
    split at h
    · rename_i off u hf
      rw [hf] at hc0
      simp only at hc0
      split at h
      · rename_i hs
        rw [if_pos hs] at hc0
        exact stuckZ (hC.trans hc0) h
      · rename_i hs
        rw [if_neg hs] at hc0
        simp only [Bool.or_eq_true, decide_eq_true_eq, not_or] at hs
        obtain ⟨n, hn⟩ := Option.ne_none_iff_exists'.1 hs.2
        exact earlyZ (hC.trans hc0) rfl (ok_fieldAddr hop hf hn (fun h0 => hs.1 (by rw [hn, h0])) (hC.trans hc0) h)
    · rename_i hf
      rw [hf] at hc0
      exact stuckZ (hC.trans hc0) h
  | indexAddr t x i =>
    rw [hop] at h
    have hc0 : compOp P o.op = compOp P (.indexAddr t x i) := by rw [hop]
    obtain ⟨C, hC⟩ : ∃ C, compOp P o.op = C := ⟨_, rfl⟩
    rw [hC] at hc0
    simp only [compOp] at h hc0
    split at h
    · rename_i n e hu
      rw [hu] at hc0
      simp only at hc0
      split at h
      · rename_i sz hs
        rw [hs] at hc0
        exact earlyZ (hC.trans hc0) rfl (ok_indexArr hop hu hs (hC.trans hc0) h)
      · rename_i hs
        rw [hs] at hc0
        exact stuckZ (hC.trans hc0) h
    · rename_i e hu
      rw [hu] at hc0
      simp only at hc0
      split at h
      · rename_i sz hs
        rw [hs] at hc0
        exact earlyZ (hC.trans hc0) rfl (ok_indexSl hop hu hs (hC.trans hc0) h)
      · rename_i hs
        rw [hs] at hc0
        exact stuckZ (hC.trans hc0) h
    · rename_i h1 h2
      refine stuckZ ?_ h
      rw [hC, hc0]
      split
      · rename_i n e hu; exact (h1 n e hu).elim
      · rename_i e hu; exact (h2 e hu).elim
      · rfl
  | load t x =>
    rw [hop] at h
    have hc0 : compOp P o.op = compOp P (.load t x) := by rw [hop]
    obtain ⟨C, hC⟩ : ∃ C, compOp P o.op = C := ⟨_, rfl⟩
    rw [hC] at hc0
    simp only [compOp] at h hc0
    split at h
    · rename_i n hn
      rw [hn] at hc0
      cases n with
      | none => exact earlyZ (hC.trans hc0) rfl (ok_load1 hop hn (hC.trans hc0) h)
      | some n => exact earlyZ (hC.trans hc0) rfl (ok_loadN hop hn (hC.trans hc0) h)
    · rename_i hn
      rw [hn] at hc0
      exact stuckZ (hC.trans hc0) h
  | store t x v =>
    rw [hop] at h
    have hc0 : compOp P o.op = compOp P (.store t x v) := by rw [hop]
    obtain ⟨C, hC⟩ : ∃ C, compOp P o.op = C := ⟨_, rfl⟩
    rw [hC] at hc0
    simp only [compOp] at h hc0
    split at h
    · rename_i n hn
      rw [hn] at hc0
      exact lateZ (hC.trans hc0) rfl (ok_store hop hn (hC.trans hc0) h)
    · rename_i hn
      rw [hn] at hc0
      exact stuckZ (hC.trans hc0) h
  | alloc t =>
    rw [hop] at h
    have hc0 : compOp P o.op = compOp P (.alloc t) := by rw [hop]
    obtain ⟨C, hC⟩ : ∃ C, compOp P o.op = C := ⟨_, rfl⟩
    rw [hC] at hc0
    simp only [compOp] at h hc0
    split at h
    · rename_i z hz
      rw [hz] at hc0
      simp only at hc0
      split at h
      · rename_i hn
        rw [if_pos hn] at hc0
        exact lateZ (hC.trans hc0) rfl (ok_alloc hop hz hn h)
      · rename_i hn
        rw [if_neg hn] at hc0
        exact stuckZ (hC.trans hc0) h
    · rename_i hz
      rw [hz] at hc0
      exact stuckZ (hC.trans hc0) h
  | box t x => rw [hop] at h; exact lateZ (i := .box (shapeN (shape0 P t)) (shape0 P t) (cX x)) (by rw [hop]; rfl) rfl (ok_box hop h)
  | build t ps =>
    rw [hop] at h
    have hc0 : compOp P o.op = compOp P (.build t ps) := by rw [hop]
    obtain ⟨C, hC⟩ : ∃ C, compOp P o.op = C := ⟨_, rfl⟩
    rw [hC] at hc0
    simp only [compOp] at h hc0
    split at h
    · rename_i fs z hu hz
      rw [hu, hz] at hc0
      simp only at hc0
      split at h
      · rename_i pl hpl
        rw [hpl] at hc0
        simp only at hc0
        split at h
        · rename_i l hl
          rw [hl] at hc0
          exact earlyZ (hC.trans hc0) rfl (ok_build hop hu hz hpl hl (hC.trans hc0) h)
        · rename_i hl
          rw [hl] at hc0
          exact stuckZ (hC.trans hc0) h
      · rename_i hpl
        rw [hpl] at hc0
        exact stuckZ (hC.trans hc0) h
    · rename_i m e z hu hz
      rw [hu, hz] at hc0
      simp only at hc0
      split at h
      · rename_i sz hs
        rw [hs] at hc0
        simp only at hc0
        split at h
        · rename_i l hl
          rw [hl] at hc0
          exact earlyZ (hC.trans hc0) rfl (ok_buildA hop hu hz hs hl (hC.trans hc0) h)
        · rename_i hl
          rw [hl] at hc0
          exact stuckZ (hC.trans hc0) h
      · rename_i hs
        rw [hs] at hc0
        exact stuckZ (hC.trans hc0) h
    · rename_i h1 h2
      refine stuckZ ?_ h
      rw [hC, hc0]
      split
      · rename_i fs z hu hz; exact (h1 fs z hu hz).elim
      · rename_i m e z hu hz; exact (h2 m e z hu hz).elim
      · rfl
  | buildSlice t n ps =>
    rw [hop] at h
    have hc0 : compOp P o.op = compOp P (.buildSlice t n ps) := by rw [hop]
    obtain ⟨C, hC⟩ : ∃ C, compOp P o.op = C := ⟨_, rfl⟩
    rw [hC] at hc0
    simp only [compOp] at h hc0
    split at h
    · rename_i e hu
      rw [hu] at hc0
      simp only at hc0
      split at h
      · rename_i sz z hs hz
        rw [hs, hz] at hc0
        simp only at hc0
        split at h
        · rename_i l hl
          rw [hl] at hc0
          simp only at hc0
          split at h
          · rename_i hcond
            rw [if_pos hcond] at hc0
            exact lateZ (hC.trans hc0) rfl (ok_buildSlice hop hu hs hz hl hcond.1 hcond.2.1 (by unfold maxN; omega) (hC.trans hc0) h)
          · rename_i hcond
            rw [if_neg hcond] at hc0
            exact stuckZ (hC.trans hc0) h
        · rename_i hl
          rw [hl] at hc0
          exact stuckZ (hC.trans hc0) h
      · rename_i h1
        refine stuckZ ?_ h
        rw [hC, hc0]
        split
        · rename_i sz z hs hz; exact (h1 sz z hs hz).elim
        · rfl
    · rename_i h1
      refine stuckZ ?_ h
      rw [hC, hc0]
      split
      · rename_i e hu; exact (h1 e hu).elim
      · rfl
  | field t x f =>
    rw [hop] at h
    have hc0 : compOp P o.op = compOp P (.field t x f) := by rw [hop]
    obtain ⟨C, hC⟩ : ∃ C, compOp P o.op = C := ⟨_, rfl⟩
    rw [hC] at hc0
    simp only [compOp] at h hc0
    split at h
    · rename_i off u hf
      rw [hf] at hc0
      simp only at hc0
      split at h
      · rename_i n hn
        rw [hn] at hc0
        exact earlyZ (hC.trans hc0) rfl (ok_field hop hf hn (hC.trans hc0) h)
      · rename_i hn
        rw [hn] at hc0
        exact stuckZ (hC.trans hc0) h
    · rename_i hf
      rw [hf] at hc0
      exact stuckZ (hC.trans hc0) h
  | extract x i => rw [hop] at h; exact earlyZ (i := .ext (cX x) i) (by rw [hop]; rfl) rfl (ok_extract hop h)
  | nilCheck x => rw [hop] at h; exact earlyZ (i := .nchk (cX x)) (by rw [hop]; rfl) rfl (ok_nilCheck hop h)
  | makeInterface t x =>
    rw [hop] at h
    have hc0 : compOp P o.op = compOp P (.makeInterface t x) := by rw [hop]
    obtain ⟨C, hC⟩ : ∃ C, compOp P o.op = C := ⟨_, rfl⟩
    rw [hC] at hc0
    simp only [compOp] at h hc0
    split at h
    · rename_i ms hu
      rw [hu] at hc0
      exact stuckZ (hC.trans hc0) h
    · rename_i d hn hu
      have hcc : compOp P o.op = .mki t (cX x) := by
        rw [hC, hc0, hu]
        cases d <;> first | rfl | exact (hn _ rfl).elim
      exact earlyZ hcc rfl (ok_makeInterface hop hu (fun ms hd => by subst hd; exact hn _ rfl) h)
    · rename_i hu
      rw [hu] at hc0
      exact stuckZ (hC.trans hc0) h
  | makeFunc fn first caps =>
    rw [hop] at h
    have hc0 : compOp P o.op = compOp P (.makeFunc fn first caps) := by rw [hop]
    obtain ⟨C, hC⟩ : ∃ C, compOp P o.op = C := ⟨_, rfl⟩
    rw [hC] at hc0
    have h0 : vop std P o.dst (compOp P o.op) s K := by rw [hop]; exact h
    cases fn with
    | func f =>
      by_cases h1 : first.isEmpty = true
      · have hc : compOp P o.op = .mkf f (caps.toList.map cX) := by rw [hop]; simp only [compOp, if_pos h1]
        exact earlyZ hc rfl (ok_makeFunc hop h1 (by rw [← hc]; exact h0))
      · by_cases h2 : caps.isEmpty = true
        · have hc : compOp P o.op = .mkb f (first.toList.map cX) := by rw [hop]; simp only [compOp, if_neg h1, if_pos h2]
          exact earlyZ hc rfl (ok_makeBound hop h2 (by rw [← hc]; exact h0))
        · exact otherZ (by rw [hop]; simp only [compOp, if_neg h1, if_neg h2]) h0
    | method m =>
      have hcc : compOp P o.op = (match first.toList, caps.isEmpty with | [x], true => .mkm m (cX x) | _, _ => .other) := by rw [hop]; rfl
      split at hcc
      · rename_i x h1 h2
        exact earlyZ hcc rfl (ok_makeMethod hop h2 h1 (by rw [← hcc]; exact h0))
      · exact otherZ hcc h0
    | _ => exact stuckZ (hC.trans hc0) h
  | slice t x lo hi mx =>
    rw [hop] at h
    have hc0 : compOp P o.op = compOp P (.slice t x lo hi mx) := by rw [hop]
    obtain ⟨C, hC⟩ : ∃ C, compOp P o.op = C := ⟨_, rfl⟩
    rw [hC] at hc0
    simp only [compOp] at h hc0
    split at h
    · rename_i e hu
      rw [hu] at hc0
      simp only at hc0
      split at h
      · rename_i sz hs
        rw [hs] at hc0
        exact earlyZ (hC.trans hc0) rfl (ok_slc hop hu hs (hC.trans hc0) h)
      · rename_i hs
        rw [hs] at hc0
        exact stuckZ (hC.trans hc0) h
    · rename_i hu
      rw [hu] at hc0
      simp only at hc0
      cases mx with
      | none => exact earlyZ (hC.trans hc0) rfl (ok_ssl hop hu (hC.trans hc0) h)
      | some m => exact stuckZ (hC.trans hc0) h
    · rename_i h1 h2
      refine stuckZ ?_ h
      rw [hC, hc0]
      split
      · rename_i e hu; exact (h1 e hu).elim
      · rename_i hu; exact (h2 hu).elim
      · rfl
  | call c =>
    rw [hop] at h
    have hc0 : compOp P o.op = compOp P (.call c) := by rw [hop]
    obtain ⟨C, hC⟩ : ∃ C, compOp P o.op = C := ⟨_, rfl⟩
    rw [hC] at hc0
    cases hcal : c.callee with
    | value x =>
      cases x with
      | func f =>
        simp only [compOp, hcal] at h
        exact lateZ (i := .call f (c.args.toList.map cX)) (by rw [hop]; simp [compOp, hcal]) rfl (ok_call hop hcal h)
      | _ =>
        simp only [compOp, hcal] at h hc0
        exact lateZ (hC.trans hc0) rfl (ok_callv hop hcal (hC.trans hc0) h)
    | invoke r m =>
      simp only [compOp, hcal] at h hc0
      exact lateZ (hC.trans hc0) rfl (ok_invoke hop hcal (hC.trans hc0) h)
    | builtin b =>
      cases b with
      | len =>
        simp only [compOp, hcal] at h hc0
        split at h
        · rename_i t x ht hx
          rw [ht, hx] at hc0
          simp only at hc0
          split at h
          · rename_i hu
            rw [hu] at hc0
            exact earlyZ (hC.trans hc0) rfl (ok_lenS hop hcal ht hx hu (hC.trans hc0) h)
          · rename_i e hu
            rw [hu] at hc0
            exact earlyZ (hC.trans hc0) rfl (ok_lenV hop hcal ht hx hu (hC.trans hc0) h)
          · rename_i h1 h2
            refine stuckZ ?_ h
            rw [hC, hc0]
            split
            · rename_i hu; exact (h1 hu).elim
            · rename_i e hu; exact (h2 e hu).elim
            · rfl
        · rename_i h1
          refine stuckZ ?_ h
          rw [hC, hc0]
          split
          · rename_i t x ht hx; exact (h1 t x ht hx).elim
          · rfl
      | append =>
        simp only [compOp, hcal] at h hc0
        split at h
        · rename_i t t' x y ht hxy
          rw [ht, hxy] at hc0
          simp only at hc0
          split at h
          · rename_i e e' hu hu'
            rw [hu, hu'] at hc0
            simp only at hc0
            split at h
            · rename_i sz b z hs hb hz
              rw [hs, hb, hz] at hc0
              simp only at hc0
              split at h
              · rename_i hcond
                rw [if_pos hcond] at hc0
                obtain ⟨hzl, hb1, hb2, hsz0⟩ := hcond
                exact lateZ (hC.trans hc0) rfl (ok_app hop hcal ht hxy hu hu' hs hb hz hzl hb1 hb2 (hC.trans hc0) h)
              · rename_i hcond
                rw [if_neg hcond] at hc0
                exact stuckZ (hC.trans hc0) h
            · rename_i h1
              refine stuckZ ?_ h
              rw [hC, hc0]
              split
              · rename_i sz b z hs hb hz; exact (h1 sz b z hs hb hz).elim
              · rfl
          · rename_i h1
            refine stuckZ ?_ h
            rw [hC, hc0]
            split
            · rename_i e e' hu hu'; exact (h1 e e' hu hu').elim
            · rfl
        · rename_i h1
          refine stuckZ ?_ h
          rw [hC, hc0]
          split
          · rename_i t t' x y ht hxy; exact (h1 t t' x y ht hxy).elim
          · rfl
      | complex =>
        simp only [compOp, hcal] at h hc0
        split at h
        · rename_i x y hxy
          rw [hxy] at hc0
          exact earlyZ (hC.trans hc0) rfl (ok_cpl hop hcal hxy (hC.trans hc0) h)
        · rename_i h1
          refine stuckZ ?_ h
          rw [hC, hc0]
          split
          · rename_i x y hxy; exact (h1 x y hxy).elim
          · rfl
      | real =>
        simp only [compOp, hcal] at h hc0
        split at h
        · rename_i x hxy
          rw [hxy] at hc0
          exact earlyZ (hC.trans hc0) rfl (ok_cpart (im := false) hop hcal hxy (hC.trans hc0) h)
        · rename_i h1
          refine stuckZ ?_ h
          rw [hC, hc0]
          split
          · rename_i x hxy; exact (h1 x hxy).elim
          · rfl
      | imag =>
        simp only [compOp, hcal] at h hc0
        split at h
        · rename_i x hxy
          rw [hxy] at hc0
          exact earlyZ (hC.trans hc0) rfl (ok_cpart (im := true) hop hcal hxy (hC.trans hc0) h)
        · rename_i h1
          refine stuckZ ?_ h
          rw [hC, hc0]
          split
          · rename_i x hxy; exact (h1 x hxy).elim
          · rfl
      | min =>
        simp only [compOp, hcal] at h hc0
        split at h
        · rename_i x y hxy
          rw [hxy] at hc0
          exact earlyZ (hC.trans hc0) rfl (ok_minmax hop (.inl ⟨hcal, rfl⟩) hxy (hC.trans hc0) h)
        · rename_i h1
          refine stuckZ ?_ h
          rw [hC, hc0]
          split
          · rename_i x y hxy; exact (h1 x y hxy).elim
          · rfl
      | max =>
        simp only [compOp, hcal] at h hc0
        split at h
        · rename_i x y hxy
          rw [hxy] at hc0
          exact earlyZ (hC.trans hc0) rfl (ok_minmax hop (.inr ⟨hcal, rfl⟩) hxy (hC.trans hc0) h)
        · rename_i h1
          refine stuckZ ?_ h
          rw [hC, hc0]
          split
          · rename_i x y hxy; exact (h1 x y hxy).elim
          · rfl
      | copy =>
        have ot : compOp P o.op = .other → SemZ P (compOp P o.op) o s K := fun hc => otherZ hc (by rw [hop]; exact h)
        have hcc : compOp P o.op = (match c.argTypes.toList, c.args.toList with
          | [t, t'], [x, y] => (match P.underlying t, P.underlying t' with
            | some (.slice e), some (.slice _) => (match sizeT P e with | some sz => if 0 < sz then .cpy sz (cX x) (cX y) else .other | none => .other)
            | _, _ => .other)
          | _, _ => .other) := by rw [hop]; simp only [compOp, hcal]; rfl
        split at hcc
        · rename_i t t' x y ht hxy
          split at hcc
          · rename_i e e' hu hu'
            split at hcc
            · rename_i sz hs
              split at hcc
              · exact lateZ hcc rfl (ok_copy hop hcal ht hxy hu hs hcc (by rw [← hcc, hop]; exact h))
              · exact ot hcc
            · exact ot hcc
          · exact ot hcc
        · exact ot hcc
      | clear =>
        have ot : compOp P o.op = .other → SemZ P (compOp P o.op) o s K := fun hc => otherZ hc (by rw [hop]; exact h)
        have hcc : compOp P o.op = (match c.argTypes.toList, c.args.toList with
          | [t], [x] => (match P.underlying t with
            | some (.slice e) => (match sizeT P e, zeroT P e with | some sz, some z => if z.length = sz ∧ 0 < sz then .clr sz z (cX x) else .other | _, _ => .other)
            | _ => .other)
          | _, _ => .other) := by rw [hop]; simp only [compOp, hcal]; rfl
        split at hcc
        · rename_i t x ht hxy
          split at hcc
          · rename_i e hu
            split at hcc
            · rename_i sz z hs hz
              split at hcc
              · rename_i hcond
                exact lateZ hcc rfl (ok_clear hop hcal ht hxy hu hz hcond.1 hcc (by rw [← hcc, hop]; exact h))
              · exact ot hcc
            · exact ot hcc
          · exact ot hcc
        · exact ot hcc
      | _ =>
        simp only [compOp, hcal] at h hc0
        exact stuckZ (hC.trans hc0) h
  | makeMap t r =>
    rw [hop] at h
    have hc0 : compOp P o.op = compOp P (.makeMap t r) := by rw [hop]
    obtain ⟨C, hC⟩ : ∃ C, compOp P o.op = C := ⟨_, rfl⟩
    rw [hC] at hc0
    cases r with
    | some r => exact stuckZ (hC.trans hc0) h
    | none =>
      simp only [compOp] at h hc0
      split at h
      · rename_i n hn
        rw [hn] at hc0
        exact lateZ (hC.trans hc0) rfl (ok_makeMap hop h)
      · rename_i hn
        rw [hn] at hc0
        exact stuckZ (hC.trans hc0) h
  | lookup t x k ok =>
    rw [hop] at h
    have hc0 : compOp P o.op = compOp P (.lookup t x k ok) := by rw [hop]
    obtain ⟨C, hC⟩ : ∃ C, compOp P o.op = C := ⟨_, rfl⟩
    rw [hC] at hc0
    cases ok with
    | false => exact stuckZ (hC.trans hc0) h
    | true =>
      simp only [compOp] at h hc0
      split at h
      · rename_i n hn
        rw [hn] at hc0
        exact lateZ (hC.trans hc0) rfl (ok_lookup hop (hC.trans hc0) h)
      · rename_i hn
        rw [hn] at hc0
        exact stuckZ (hC.trans hc0) h
  | mapUpdate t m k x =>
    rw [hop] at h
    have hc0 : compOp P o.op = compOp P (.mapUpdate t m k x) := by rw [hop]
    obtain ⟨C, hC⟩ : ∃ C, compOp P o.op = C := ⟨_, rfl⟩
    rw [hC] at hc0
    simp only [compOp] at h hc0
    split at h
    · rename_i n hn
      rw [hn] at hc0
      exact lateZ (hC.trans hc0) rfl (ok_mapUpdate hop (hC.trans hc0) h)
    · rename_i hn
      rw [hn] at hc0
      exact stuckZ (hC.trans hc0) h
  | _ =>
    rw [hop] at h
    exact stuckZ (by rw [hop]) h

end Go.V
