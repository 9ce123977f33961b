/-
  The conditions suffice: any operation.
-/
import Derived.Test.YtophlodlencgiaaDoorFVcgM
namespace Go.V
variable {O : Type} [Objs O]

theorem stuckZ {P : Program} {o : Oper} {s : St O} {K : St O → Prop} {i : Ins} (hi : compOp P o.op = i) (h : Stuck P o.dst i s K) : SemZ P (compOp P o.op) o s K := by
  rw [hi]; exact stuck_ok rfl hi h

theorem earlyZ {P : Program} {o : Oper} {s : St O} {K : St O → Prop} {i : Ins} (hi : compOp P o.op = i) (he : early i = true) (h : SemY P o s K (ldH s i)) : SemZ P (compOp P o.op) o s K := by
  rw [hi, SemZ, he]; exact h

theorem lateZ {P : Program} {o : Oper} {s : St O} {K : St O → Prop} {i : Ins} (hi : compOp P o.op = i) (he : early i = false) (h : SemO P o s K) : SemZ P (compOp P o.op) o s K := by
  rw [hi, SemZ, he]; exact h

theorem vop_sound {P : Program} (o : Oper) (s : St O) (K : St O → Prop) (h : vop std P o.dst (compOp P o.op) s K) : SemZ P (compOp P o.op) o s K := by
  obtain ⟨op0, hop⟩ : ∃ x, o.op = x := ⟨_, rfl⟩
  cases op0 with
  | move x => rw [hop] at h; exact earlyZ (i := .mov (cX x)) (by rw [hop]; rfl) rfl (ok_move (.inl hop) h)
  | assign x => rw [hop] at h; exact earlyZ (i := .mov (cX x)) (by rw [hop]; rfl) rfl (ok_move (.inr hop) h)
  | pick c x y => rw [hop] at h; exact earlyZ (i := .pick (cX c) (cX x) (cX y)) (by rw [hop]; rfl) rfl (ok_pick hop h)
  | binOp bop t x y t' =>
    rw [hop] at h
    have hc0 : compOp P o.op = compOp P (.binOp bop t x y t') := by rw [hop]
    obtain ⟨C, hC⟩ : ∃ C, compOp P o.op = C := ⟨_, rfl⟩
    rw [hC] at hc0
    simp only [compOp] at h hc0
    split at h
    · rename_i k hk
      rw [hk] at hc0
      exact earlyZ (hC.trans hc0) rfl (ok_eqn (neg := false) hop hk (hC.trans hc0) h)
    · rename_i k hk
      rw [hk] at hc0
      exact earlyZ (hC.trans hc0) rfl (ok_eqn (neg := true) hop hk (hC.trans hc0) h)
    · rename_i bop3 bop2 k' h1 h2
      have hcc : compOp P o.op = .bin bop3 (cX x) (cX y) := by
       rw [hC, hc0]
       split
       · rename_i k hk; exact (h1 k rfl hk).elim
       · rename_i k hk; exact (h2 k rfl hk).elim
       · rfl
      exact earlyZ hcc rfl (ok_bin hop hcc h)
  | unOp op t x => rw [hop] at h; exact earlyZ (i := .un op (cX x)) (by rw [hop]; rfl) rfl (ok_un hop h)
  | convert t0 t x =>
    rw [hop] at h
    have hc0 : compOp P o.op = compOp P (.convert t0 t x) := by rw [hop]
    obtain ⟨C, hC⟩ : ∃ C, compOp P o.op = C := ⟨_, rfl⟩
    rw [hC] at hc0
    simp only [compOp] at h hc0
    split at h
    · rename_i k d hk hd
      rw [hk, hd] at hc0
      exact earlyZ (hC.trans hc0) rfl (ok_conv hop hk (by rw [hd]; rfl) h)
    · rename_i hn
      refine stuckZ ?_ h
      rw [hC, hc0]
      split
      · rename_i k d hk hd; exact (hn k d hk hd).elim
      · rfl
  | fieldAddr t x f =>
    rw [hop] at h
    have hc0 : compOp P o.op = compOp P (.fieldAddr t x f) := by rw [hop]
    obtain ⟨C, hC⟩ : ∃ C, compOp P o.op = C := ⟨_, rfl⟩
    rw [hC] at hc0
    simp only [compOp] at h hc0
    split at h
    · rename_i off u hf
      rw [hf] at hc0
      simp only at hc0
      split at h
      · rename_i hs
        rw [if_pos hs] at hc0
        exact stuckZ (hC.trans hc0) h
      · rename_i hs
        rw [if_neg hs] at hc0
        simp only [Bool.or_eq_true, decide_eq_true_eq, not_or] at hs
        obtain ⟨n, hn⟩ := Option.ne_none_iff_exists'.1 hs.2
        exact earlyZ (hC.trans hc0) rfl (ok_fieldAddr hop hf hn (fun h0 => hs.1 (by rw [hn, h0])) (hC.trans hc0) h)
    · rename_i hf
      rw [hf] at hc0
      exact stuckZ (hC.trans hc0) h
  | indexAddr t x i =>
    rw [hop] at h
    have hc0 : compOp P o.op = compOp P (.indexAddr t x i) := by rw [hop]
    obtain ⟨C, hC⟩ : ∃ C, compOp P o.op = C := ⟨_, rfl⟩
    rw [hC] at hc0
    simp only [compOp] at h hc0
    split at h
    · rename_i n e hu
      rw [hu] at hc0
      simp only at hc0
      split at h
      · rename_i sz hs
        rw [hs] at hc0
        exact earlyZ (hC.trans hc0) rfl (ok_indexArr hop hu hs (hC.trans hc0) h)
      · rename_i hs
        rw [hs] at hc0
        exact stuckZ (hC.trans hc0) h
    · rename_i e hu
      rw [hu] at hc0
      simp only at hc0
      split at h
      · rename_i sz hs
        rw [hs] at hc0
        exact earlyZ (hC.trans hc0) rfl (ok_indexSl hop hu hs (hC.trans hc0) h)
      · rename_i hs
        rw [hs] at hc0
        exact stuckZ (hC.trans hc0) h
    · rename_i h1 h2
      refine stuckZ ?_ h
      rw [hC, hc0]
      split
      · rename_i n e hu; exact (h1 n e hu).elim
      · rename_i e hu; exact (h2 e hu).elim
      · rfl
  | load t x =>
    rw [hop] at h
    have hc0 : compOp P o.op = compOp P (.load t x) := by rw [hop]
    obtain ⟨C, hC⟩ : ∃ C, compOp P o.op = C := ⟨_, rfl⟩
    rw [hC] at hc0
    simp only [compOp] at h hc0
    split at h
    · rename_i n hn
      rw [hn] at hc0
      cases n with
      | none => exact earlyZ (hC.trans hc0) rfl (ok_load1 hop hn (hC.trans hc0) h)
      | some n => exact earlyZ (hC.trans hc0) rfl (ok_loadN hop hn (hC.trans hc0) h)
    · rename_i hn
      rw [hn] at hc0
      exact stuckZ (hC.trans hc0) h
  | store t x v =>
    rw [hop] at h
    have hc0 : compOp P o.op = compOp P (.store t x v) := by rw [hop]
    obtain ⟨C, hC⟩ : ∃ C, compOp P o.op = C := ⟨_, rfl⟩
    rw [hC] at hc0
    simp only [compOp] at h hc0
    split at h
    · rename_i n hn
      rw [hn] at hc0
      exact lateZ (hC.trans hc0) rfl (ok_store hop hn (hC.trans hc0) h)
    · rename_i hn
      rw [hn] at hc0
      exact stuckZ (hC.trans hc0) h
  | alloc t =>
    rw [hop] at h
    have hc0 : compOp P o.op = compOp P (.alloc t) := by rw [hop]
    obtain ⟨C, hC⟩ : ∃ C, compOp P o.op = C := ⟨_, rfl⟩
    rw [hC] at hc0
    simp only [compOp] at h hc0
    split at h
    · rename_i z hz
      rw [hz] at hc0
      simp only at hc0
      split at h
      · rename_i hn
        rw [if_pos hn] at hc0
        exact lateZ (hC.trans hc0) rfl (ok_alloc hop hz hn h)
      · rename_i hn
        rw [if_neg hn] at hc0
        exact stuckZ (hC.trans hc0) h
    · rename_i hz
      rw [hz] at hc0
      exact stuckZ (hC.trans hc0) h
  | box t x => rw [hop] at h; exact lateZ (i := .box (shapeN (shape0 P t)) (shape0 P t) (cX x)) (by rw [hop]; rfl) rfl (ok_box hop h)
  | build t ps =>
    rw [hop] at h
    have hc0 : compOp P o.op = compOp P (.build t ps) := by rw [hop]
    obtain ⟨C, hC⟩ : ∃ C, compOp P o.op = C := ⟨_, rfl⟩
    rw [hC] at hc0
    simp only [compOp] at h hc0
    split at h
    · rename_i fs z hu hz
      rw [hu, hz] at hc0
      simp only at hc0
      split at h
      · rename_i pl hpl
        rw [hpl] at hc0
        simp only at hc0
        split at h
        · rename_i l hl
          rw [hl] at hc0
          exact earlyZ (hC.trans hc0) rfl (ok_build hop hu hz hpl hl (hC.trans hc0) h)
        · rename_i hl
          rw [hl] at hc0
          exact stuckZ (hC.trans hc0) h
      · rename_i hpl
        rw [hpl] at hc0
        exact stuckZ (hC.trans hc0) h
    · rename_i h1
      refine stuckZ ?_ h
      rw [hC, hc0]
      split
      · rename_i fs z hu hz; exact (h1 fs z hu hz).elim
      · rfl
  | buildSlice t n ps =>
    rw [hop] at h
    have hc0 : compOp P o.op = compOp P (.buildSlice t n ps) := by rw [hop]
    obtain ⟨C, hC⟩ : ∃ C, compOp P o.op = C := ⟨_, rfl⟩
    rw [hC] at hc0
    simp only [compOp] at h hc0
    split at h
    · rename_i e hu
      rw [hu] at hc0
      simp only at hc0
      split at h
      · rename_i sz z hs hz
        rw [hs, hz] at hc0
        simp only at hc0
        split at h
        · rename_i l hl
          rw [hl] at hc0
          simp only at hc0
          split at h
          · rename_i hcond
            rw [if_pos hcond] at hc0
            exact lateZ (hC.trans hc0) rfl (ok_buildSlice hop hu hs hz hl hcond.1 hcond.2.1 (by unfold maxN; omega) (hC.trans hc0) h)
          · rename_i hcond
            rw [if_neg hcond] at hc0
            exact stuckZ (hC.trans hc0) h
        · rename_i hl
          rw [hl] at hc0
          exact stuckZ (hC.trans hc0) h
      · rename_i h1
        refine stuckZ ?_ h
        rw [hC, hc0]
        split
        · rename_i sz z hs hz; exact (h1 sz z hs hz).elim
        · rfl
    · rename_i h1
      refine stuckZ ?_ h
      rw [hC, hc0]
      split
      · rename_i e hu; exact (h1 e hu).elim
      · rfl
  | field t x f =>
    rw [hop] at h
    have hc0 : compOp P o.op = compOp P (.field t x f) := by rw [hop]
    obtain ⟨C, hC⟩ : ∃ C, compOp P o.op = C := ⟨_, rfl⟩
    rw [hC] at hc0
    simp only [compOp] at h hc0
    split at h
    · rename_i off u hf
      rw [hf] at hc0
      simp only at hc0
      split at h
      · rename_i n hn
        rw [hn] at hc0
        exact earlyZ (hC.trans hc0) rfl (ok_field hop hf hn (hC.trans hc0) h)
      · rename_i hn
        rw [hn] at hc0
        exact stuckZ (hC.trans hc0) h
    · rename_i hf
      rw [hf] at hc0
      exact stuckZ (hC.trans hc0) h
  | extract x i => rw [hop] at h; exact earlyZ (i := .ext (cX x) i) (by rw [hop]; rfl) rfl (ok_extract hop h)
  | nilCheck x => rw [hop] at h; exact earlyZ (i := .nchk (cX x)) (by rw [hop]; rfl) rfl (ok_nilCheck hop h)
  | makeInterface t x =>
    rw [hop] at h
    have hc0 : compOp P o.op = compOp P (.makeInterface t x) := by rw [hop]
    obtain ⟨C, hC⟩ : ∃ C, compOp P o.op = C := ⟨_, rfl⟩
    rw [hC] at hc0
    simp only [compOp] at h hc0
    split at h
    · rename_i ms hu
      rw [hu] at hc0
      exact stuckZ (hC.trans hc0) h
    · rename_i d hn hu
      have hcc : compOp P o.op = .mki t (cX x) := by
        rw [hC, hc0, hu]
        cases d <;> first | rfl | exact (hn _ rfl).elim
      exact earlyZ hcc rfl (ok_makeInterface hop hu (fun ms hd => by subst hd; exact hn _ rfl) h)
    · rename_i hu
      rw [hu] at hc0
      exact stuckZ (hC.trans hc0) h
  | makeFunc fn first caps =>
    rw [hop] at h
    have hc0 : compOp P o.op = compOp P (.makeFunc fn first caps) := by rw [hop]
    obtain ⟨C, hC⟩ : ∃ C, compOp P o.op = C := ⟨_, rfl⟩
    rw [hC] at hc0
    cases fn with
    | func f =>
      simp only [compOp] at h hc0
      split at h
      · rename_i h0
        rw [if_pos h0] at hc0
        exact earlyZ (hC.trans hc0) rfl (ok_makeFunc hop h0 h)
      · rename_i h0
        rw [if_neg h0] at hc0
        exact stuckZ (hC.trans hc0) h
    | _ => exact stuckZ (hC.trans hc0) h
  | slice t x lo hi mx =>
    rw [hop] at h
    have hc0 : compOp P o.op = compOp P (.slice t x lo hi mx) := by rw [hop]
    obtain ⟨C, hC⟩ : ∃ C, compOp P o.op = C := ⟨_, rfl⟩
    rw [hC] at hc0
    simp only [compOp] at h hc0
    split at h
    · rename_i e hu
      rw [hu] at hc0
      simp only at hc0
      split at h
      · rename_i sz hs
        rw [hs] at hc0
        exact earlyZ (hC.trans hc0) rfl (ok_slc hop hu hs (hC.trans hc0) h)
      · rename_i hs
        rw [hs] at hc0
        exact stuckZ (hC.trans hc0) h
    · rename_i hu
      rw [hu] at hc0
      simp only at hc0
      cases mx with
      | none => exact earlyZ (hC.trans hc0) rfl (ok_ssl hop hu (hC.trans hc0) h)
      | some m => exact stuckZ (hC.trans hc0) h
    · rename_i h1 h2
      refine stuckZ ?_ h
      rw [hC, hc0]
      split
      · rename_i e hu; exact (h1 e hu).elim
      · rename_i hu; exact (h2 hu).elim
      · rfl
  | call c =>
    rw [hop] at h
    have hc0 : compOp P o.op = compOp P (.call c) := by rw [hop]
    obtain ⟨C, hC⟩ : ∃ C, compOp P o.op = C := ⟨_, rfl⟩
    rw [hC] at hc0
    cases hcal : c.callee with
    | value x =>
      cases x with
      | func f =>
        simp only [compOp, hcal] at h
        exact lateZ (i := .call f (c.args.toList.map cX)) (by rw [hop]; simp [compOp, hcal]) rfl (ok_call hop hcal h)
      | _ =>
        simp only [compOp, hcal] at h hc0
        exact lateZ (hC.trans hc0) rfl (ok_callv hop hcal (hC.trans hc0) h)
    | invoke r m =>
      simp only [compOp, hcal] at h hc0
      exact lateZ (hC.trans hc0) rfl (ok_invoke hop hcal (hC.trans hc0) h)
    | builtin b =>
      cases b with
      | len =>
        simp only [compOp, hcal] at h hc0
        split at h
        · rename_i t x ht hx
          rw [ht, hx] at hc0
          simp only at hc0
          split at h
          · rename_i hu
            rw [hu] at hc0
            exact earlyZ (hC.trans hc0) rfl (ok_lenS hop hcal ht hx hu (hC.trans hc0) h)
          · rename_i e hu
            rw [hu] at hc0
            exact earlyZ (hC.trans hc0) rfl (ok_lenV hop hcal ht hx hu (hC.trans hc0) h)
          · rename_i h1 h2
            refine stuckZ ?_ h
            rw [hC, hc0]
            split
            · rename_i hu; exact (h1 hu).elim
            · rename_i e hu; exact (h2 e hu).elim
            · rfl
        · rename_i h1
          refine stuckZ ?_ h
          rw [hC, hc0]
          split
          · rename_i t x ht hx; exact (h1 t x ht hx).elim
          · rfl
      | append =>
        simp only [compOp, hcal] at h hc0
        split at h
        · rename_i t t' x y ht hxy
          rw [ht, hxy] at hc0
          simp only at hc0
          split at h
          · rename_i e e' hu hu'
            rw [hu, hu'] at hc0
            simp only at hc0
            split at h
            · rename_i sz b z hs hb hz
              rw [hs, hb, hz] at hc0
              simp only at hc0
              split at h
              · rename_i hcond
                rw [if_pos hcond] at hc0
                obtain ⟨hzl, hb1, hb2, hsz0⟩ := hcond
                simp only [vop] at h
                split at h
                · rename_i m bt hx hsrc
                  exact lateZ (hC.trans hc0) rfl (app_first hop hcal ht hxy hu hu' hs hb hz hzl hb1 hb2 hsrc h.h (.inl hx) h.k)
                · rename_i m bt hx hsrc
                  exact lateZ (hC.trans hc0) rfl (app_first hop hcal ht hxy hu hu' hs hb hz hzl hb1 hb2 hsrc h.h (.inr hx) h.k)
                · rename_i hh m bt hx hsrc
                  split at h
                  · rename_i n sz' at_ hch
                    split at h
                    · rename_i hsz
                      subst hsz
                      exact lateZ (hC.trans hc0) rfl (app_own hop hcal ht hxy hu hu' hs hb hz hzl hb1 hb2 hsrc hch hx h.h h.k)
                    · exact stuckZ (hC.trans hc0) h
                  · exact stuckZ (hC.trans hc0) h
                · exact stuckZ (hC.trans hc0) h
              · rename_i hcond
                rw [if_neg hcond] at hc0
                exact stuckZ (hC.trans hc0) h
            · rename_i h1
              refine stuckZ ?_ h
              rw [hC, hc0]
              split
              · rename_i sz b z hs hb hz; exact (h1 sz b z hs hb hz).elim
              · rfl
          · rename_i h1
            refine stuckZ ?_ h
            rw [hC, hc0]
            split
            · rename_i e e' hu hu'; exact (h1 e e' hu hu').elim
            · rfl
        · rename_i h1
          refine stuckZ ?_ h
          rw [hC, hc0]
          split
          · rename_i t t' x y ht hxy; exact (h1 t t' x y ht hxy).elim
          · rfl
      | _ =>
        simp only [compOp, hcal] at h hc0
        exact stuckZ (hC.trans hc0) h
  | _ =>
    rw [hop] at h
    exact stuckZ (by rw [hop]) h

end Go.V
