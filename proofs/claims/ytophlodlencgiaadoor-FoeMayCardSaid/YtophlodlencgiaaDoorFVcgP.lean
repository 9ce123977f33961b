/-
  Regions whose order is open: the conditions suffice.
-/
import Derived.Test.YtophlodlencgiaaDoorFVcgO
namespace Go.V

section
variable {P : Program} {md : Region.Mode} {ops : Array Oper} {Q : Exit → Act → World → Prop}

/-- Operation j waits for operation k. -/
def Dep (md : Region.Mode) (ops : Array Oper) (k j : Nat) : Prop := ∃ oj, ops[j]? = some oj ∧ ∃ e ∈ oj.after, Region.binds md e = true ∧ e.on = k

/-- Whatever order is picked from here on; S k: what an early-taken operation k needs of the worlds; it is kept by all that does not wait for k. -/
def wpAnyG (P : Program) (md : Region.Mode) (ops : Array Oper) (Q : Exit → Act → World → Prop) : Nat → (Nat → World → Prop) → Array Bool → Act → World → Prop
  | 0, _, listed, a, w => Region.ready md ops listed = [] ∧ Q .normal a w
  | fuel + 1, S, listed, a, w =>
    (Region.ready md ops listed = [] → Q .normal a w) ∧
    ∀ j ∈ Region.ready md ops listed, wpOp P ops Q j (fun a' w' => ∃ S' : Nat → World → Prop, (∀ k, ¬ Dep md ops k j → ∀ w, S' k w → S k w) ∧ (∀ k, S' k w') ∧
      wpAnyG P md ops Q fuel S' (listed.setIfInBounds j true) a' w') a w

theorem wpAnyG.any : ∀ (fuel : Nat) (S : Nat → World → Prop) (listed : Array Bool) (a : Act) (w : World), wpAnyG P md ops Q fuel S listed a w → wpAny P md ops Q fuel listed a w
  | 0, _, _, _, _, h => h
  | fuel + 1, _, _, _, _, h => ⟨h.1, fun i hi => wpOp_mono (fun a' w' ⟨S', _, _, h'⟩ => wpAnyG.any fuel S' _ a' w' h') (h.2 i hi)⟩

theorem wpAnyG.weaken {fuel : Nat} {S S1 : Nat → World → Prop} {listed : Array Bool} {a : Act} {w : World} (hS : ∀ k w, S1 k w → S k w) (h : wpAnyG P md ops Q fuel S1 listed a w) :
    wpAnyG P md ops Q fuel S listed a w := by
  cases fuel with
  | zero => exact h
  | succ fuel => exact ⟨h.1, fun i hi => wpOp_mono (fun a' w' ⟨S', h1, h2, h'⟩ => ⟨S', fun k hk w hw => hS k w (h1 k hk w hw), h2, h'⟩) (h.2 i hi)⟩

theorem wpAnyG_first {i : Nat} {oi : Oper} {v : Value} (hi : ops[i]? = some oi) (hsel : ∀ (j : Nat) (o : Oper) cs b, ops[j]? = some o → o.op ≠ .select cs b)
    (hQ : ∀ c a w, Q (.panic c) (a.put oi.dst v) w → Q (.panic c) a w) :
    ∀ (fuel : Nat) (S : Nat → World → Prop) (listed : Array Bool) (a : Act) (w : World),
      (∀ j oj, ops[j]? = some oj → j ≠ i → listed.getD j true = false → (∀ e ∈ oj.after, Region.binds md e = true → e.on ≠ i) → oi.apart ops oj = true) →
      i ∈ Region.ready md ops listed → YieldsIf P ops (S i) oi v a → (∀ k, S k w) →
      wpAnyG P md ops Q fuel S (listed.setIfInBounds i true) (a.put oi.dst v) w → wpAnyG P md ops Q (fuel + 1) S listed a w := by
  intro fuel
  induction fuel with
  | zero =>
    intro S listed a w _ hr hy hS H
    refine ⟨fun h => (by rw [h] at hr; cases hr), fun j hj => ?_⟩
    by_cases hji : j = i
    · subst hji; exact hy.wpOp hi (hS _) ⟨S, fun _ _ _ h => h, hS, H⟩
    · have := ready_mono hj hji
      rw [H.1] at this
      cases this
  | succ fuel ih =>
    intro S listed a w hfree hr hy hS H
    refine ⟨fun h => (by rw [h] at hr; cases hr), fun j hj => ?_⟩
    by_cases hji : j = i
    · subst hji; exact hy.wpOp hi (hS _) ⟨S, fun _ _ _ h => h, hS, H⟩
    · have h1 := H.2 j (ready_mono hj hji)
      obtain ⟨hjun, oj, hoj, hall⟩ := mem_ready.1 hj
      have hnot : ∀ e ∈ oj.after, Region.binds md e = true → e.on ≠ i := fun e he hb heq => by
        have h1 := hall e he hb
        have h0 := (mem_ready.1 hr).1
        rw [heq] at h1
        rcases Nat.lt_or_ge i listed.size with h' | h'
        · simp [h'] at h0 h1; rw [h0] at h1; cases h1
        · simp [Array.getElem?_eq_none h'] at h1
      have hndep : ¬ Dep md ops i j := by
        rintro ⟨oj', hoj', e, he, hb, heq⟩
        rw [hoj] at hoj'
        cases hoj'
        exact hnot e he hb heq
      have h2 := wpOp_putIf hoj (hfree j oj hoj hji hjun hnot) (fun cs b => hsel i oi cs b hi) (fun cs b => hsel j oj cs b hoj) hQ hy h1
      have hfree' : ∀ k ok, ops[k]? = some ok → k ≠ i → (listed.setIfInBounds j true).getD k true = false →
          (∀ e ∈ ok.after, Region.binds md e = true → e.on ≠ i) → oi.apart ops ok = true := fun k ok hk hki hun hno => by
        refine hfree k ok hk hki ?_ hno
        by_cases hjk : j = k
        · subst hjk; exact hjun
        · rw [getD_set_ne true hjk] at hun; exact hun
      refine wpOp_mono (fun a' w' h3 => ?_) h2
      obtain ⟨hy', S', hs1, hs2, h3⟩ := h3
      have hy2 : YieldsIf P ops (S' i) oi v a' := hy'.imp (fun ⟨hw, hv⟩ => ⟨hw, fun w h => hv w (hs1 i hndep w h)⟩) id
      refine ⟨S', hs1, hs2, ih S' (listed.setIfInBounds j true) a' w' hfree' (ready_mono hr (Ne.symm hji)) hy2 hs2 ?_⟩
      rw [Array.setIfInBounds_comm _ _ hji]
      exact h3

theorem wpAnyG_take {i : Nat} {oi : Oper} {v : Value} {fuel : Nat} {S : Nat → World → Prop} {listed : Array Bool} {a : Act} {w : World} (hi : ops[i]? = some oi)
    (hs : Region.noSelect ops = true) (hf : Region.free md ops listed i = true) (hr : i ∈ Region.ready md ops listed)
    (hQ : ∀ c a w, Q (.panic c) (a.put oi.dst v) w → Q (.panic c) a w) (hy : YieldsIf P ops (S i) oi v a) (hS : ∀ k, S k w)
    (h : wpAnyG P md ops Q fuel S (listed.setIfInBounds i true) (a.put oi.dst v) w) : wpAnyG P md ops Q (fuel + 1) S listed a w :=
  wpAnyG_first hi (Region.noSelect_spec hs) hQ fuel S listed a w (Region.free_spec hi hf) hr hy hS h
end

/-! ### Masks -/
section
variable {O : Type}

theorem memN_iff {n : Nat} : ∀ {l : List Nat}, memN n l = true ↔ n ∈ l
  | [] => by simp [memN]
  | x :: l => by
    simp only [memN]
    split
    · rename_i h
      have := Nat.eq_of_beq_eq_true h
      simp [this]
    · rename_i h
      have : n ≠ x := fun h' => by subst h'; simp at h
      simp [this, memN_iff]

theorem heldOf_mem {aft : List Nat} {h : Nat} : ∀ {R : List (Nat × Nat)}, h ∈ heldOf aft R ↔ ∃ k, (k, h) ∈ R ∧ k ∉ aft
  | [] => by simp [heldOf]
  | (k, g) :: R => by
    have ih := heldOf_mem (aft := aft) (h := h) (R := R)
    simp only [heldOf]
    split
    · rename_i hb
      rw [Bool.or_eq_true, memN_iff, memN_iff] at hb
      rw [ih]
      constructor
      · rintro ⟨k', h1, h2⟩; exact ⟨k', by simp [h1], h2⟩
      · rintro ⟨k', h1, h2⟩
        simp only [List.mem_cons, Prod.mk.injEq] at h1
        rcases h1 with ⟨rfl, rfl⟩ | h1
        · rcases hb with hb | hb
          · exact (h2 hb).elim
          · exact heldOf_mem.1 hb
        · exact ⟨k', h1, h2⟩
    · rename_i hb
      rw [Bool.or_eq_false_iff] at hb
      have hk : k ∉ aft := fun hk => by rw [memN_iff.2 hk] at hb; cases hb.1
      simp only [List.mem_cons, ih, Prod.mk.injEq]
      constructor
      · rintro (rfl | ⟨k', h1, h2⟩)
        · exact ⟨k, .inl ⟨rfl, rfl⟩, hk⟩
        · exact ⟨k', .inr h1, h2⟩
      · rintro ⟨k', ⟨rfl, rfl⟩ | h1, h2⟩
        · exact .inl rfl
        · exact .inr ⟨k', h1, h2⟩

theorem heldOf_nodup {aft : List Nat} : ∀ (R : List (Nat × Nat)), (heldOf aft R).Nodup
  | [] => by simp [heldOf]
  | (k, g) :: R => by
    simp only [heldOf]
    split
    · exact heldOf_nodup R
    · rename_i hb
      rw [Bool.or_eq_false_iff] at hb
      exact List.nodup_cons.2 ⟨fun hm => by (rw [memN_iff.2 hm] at hb; exact Bool.noConfusion hb.2), heldOf_nodup R⟩

theorem keepR_mem {aft : List Nat} {k h : Nat} : ∀ {R : List (Nat × Nat)}, (k, h) ∈ keepR aft R ↔ (k, h) ∈ R ∧ k ∉ aft
  | [] => by simp [keepR]
  | (k', g) :: R => by
    have ih := keepR_mem (aft := aft) (k := k) (h := h) (R := R)
    simp only [keepR]
    split
    · rename_i hb
      rw [memN_iff] at hb
      rw [ih]
      simp only [List.mem_cons, Prod.mk.injEq]
      constructor
      · rintro ⟨h1, h2⟩; exact ⟨.inr h1, h2⟩
      · rintro ⟨⟨rfl, rfl⟩ | h1, h2⟩
        · exact (h2 hb).elim
        · exact ⟨h1, h2⟩
    · rename_i hb
      have hk : k' ∉ aft := fun hk => by rw [memN_iff.2 hk] at hb; cases hb
      simp only [List.mem_cons, Prod.mk.injEq, ih]
      constructor
      · rintro (⟨rfl, rfl⟩ | ⟨h1, h2⟩)
        · exact ⟨.inl ⟨rfl, rfl⟩, hk⟩
        · exact ⟨.inr h1, h2⟩
      · rintro ⟨⟨rfl, rfl⟩ | h1, h2⟩
        · exact .inl ⟨rfl, rfl⟩
        · exact .inr ⟨h1, h2⟩

theorem addR_mem {i k h : Nat} : ∀ {l : List Nat} {R : List (Nat × Nat)}, (k, h) ∈ addR i l R ↔ (k = i ∧ h ∈ l) ∨ (k, h) ∈ R
  | [], R => by simp [addR]
  | g :: l, R => by
    simp only [addR, List.mem_cons, Prod.mk.injEq, addR_mem (l := l)]
    constructor
    · rintro (⟨rfl, rfl⟩ | ⟨rfl, h1⟩ | h1)
      · exact .inl ⟨rfl, .inl rfl⟩
      · exact .inl ⟨rfl, .inr h1⟩
      · exact .inr h1
    · rintro (⟨rfl, rfl | h1⟩ | h1)
      · exact .inl ⟨rfl, rfl⟩
      · exact .inr (.inl ⟨rfl, h1⟩)
      · exact .inr (.inr h1)

theorem maskM_length : ∀ (hs : List Nat) (m : List (Chunk O)), (maskM hs m).length = m.length
  | [], _ => rfl
  | h :: hs, m => by simp [maskM, lset_eq, maskM_length hs m]

theorem maskM_get {h : Nat} : ∀ {hs : List Nat} {m : List (Chunk O)}, (maskM hs m)[h]? = if h ∈ hs ∧ h < m.length then some .gone else m[h]?
  | [], _ => by simp [maskM]
  | g :: hs, m => by
    have ih := maskM_get (h := h) (hs := hs) (m := m)
    simp only [maskM, lset_eq, List.getElem?_set, maskM_length, List.mem_cons]
    by_cases hg : g = h
    · subst hg
      by_cases hl : g < m.length
      · simp [hl]
      · simp [hl]
    · rw [if_neg hg, ih]
      simp [Ne.symm hg]

theorem unmaskM_get {m : List (Chunk O)} {h : Nat} : ∀ {hs : List Nat} {m1 m2 : List (Chunk O)}, hs.Nodup → unmaskM m hs m1 = some m2 →
    m2.length = m1.length ∧ (h ∈ hs → m2[h]? = m[h]?) ∧ (h ∉ hs → m2[h]? = m1[h]?)
  | [], m1, m2, _, e => by
    simp only [unmaskM, Option.some.injEq] at e
    subst e
    simp
  | g :: hs, m1, m2, hnd, e => by
    simp only [unmaskM] at e
    split at e
    · rename_i c h1 h2
      obtain ⟨hg, hnd⟩ := List.nodup_cons.1 hnd
      obtain ⟨h3, h4, h5⟩ := unmaskM_get (h := h) hnd e
      rw [lset_eq] at h3 h5
      refine ⟨by simpa using h3, fun hm => ?_, fun hm => ?_⟩
      · simp only [List.mem_cons] at hm
        by_cases hgh : h = g
        · subst hgh
          rw [h5 hg, List.getElem?_set_self]
          · rw [lget_eq] at h2; exact h2.symm
          · rw [lget_eq] at h1
            rcases Nat.lt_or_ge h m1.length with h' | h'
            · exact h'
            · rw [List.getElem?_eq_none h'] at h1; cases h1
        · exact h4 (hm.resolve_left hgh)
      · simp only [List.mem_cons, not_or] at hm
        rw [h5 hm.2, List.getElem?_set_ne (Ne.symm hm.1)]
    · cases e
end

variable {O : Type} [Objs O]

theorem MSat.size {β : Nat → HI} {I : Nat → Prop} {w : World} {F : Nat → Nat → Prop} {mem : List (Chunk O)} (h : MSat β I w F mem) {k b : Nat} (hb : F k b) : b < w.heap.size := (h.old k b hb).1

/-- Some chunks laid aside. -/
theorem MSat.mask {β : Nat → HI} {I : Nat → Prop} {w : World} {F : Nat → Nat → Prop} {mem : List (Chunk O)} (hm : MSat β I w F mem) (hs : List Nat) :
    MSat β I w (fun h b => h ∉ hs ∧ F h b) (maskM hs mem) where
  chunk h c hc := by
    rw [maskM_get] at hc
    rw [maskM_length]
    split at hc
    · rename_i hh
      simp only [Option.some.injEq] at hc
      subst hc
      exact fun b hb => hb.1 hh.1
    · rename_i hh
      have hlt : h < mem.length := by
        rcases Nat.lt_or_ge h mem.length with h' | h'
        · exact h'
        · rw [List.getElem?_eq_none h'] at hc; cases hc
      have hnot : h ∉ hs := fun hmem => hh ⟨hmem, hlt⟩
      have := hm.chunk h c hc
      have e : (fun b => h ∉ hs ∧ F h b) = F h := by funext b; simp [hnot]
      rw [e]; exact this
  apart h h' b h1 h2 := hm.apart h h' b h1.2 h2.2
  none h b hl hb := hm.none h b (by rw [maskM_length] at hl; exact hl) hb.2
  old h b hb := hm.old h b hb.2
  wh := hm.wh

/-- And taken up again, in a later world. -/
theorem MSat.unmask {β β1 : Nat → HI} {I I1 : Nat → Prop} {w w1 : World} {F F1 : Nat → Nat → Prop} {mem mem1 mem2 : List (Chunk O)} {hs : List Nat} (hm : MSat β I w F mem) (hnd : hs.Nodup)
    (hw : Went w (fun b => ∃ h, h ∉ hs ∧ F h b) I w1 (fun b => ∃ h, F1 h b) I1) (hb : ∀ h, h < mem.length → β1 h = β h) (hl : mem.length ≤ mem1.length) (hm1 : MSat β1 I1 w1 F1 mem1)
    (hu : unmaskM mem hs mem1 = some mem2) :
    MSat β1 I1 w1 (fun h b => if h ∈ hs then F h b else F1 h b) mem2 := by
  have hlen : mem2.length = mem1.length := (unmaskM_get (h := 0) hnd hu).1
  have hin : ∀ h ∈ hs, mem2[h]? = mem[h]? := fun h hh => (unmaskM_get hnd hu).2.1 hh
  have hout : ∀ h, h ∉ hs → mem2[h]? = mem1[h]? := fun h hh => (unmaskM_get hnd hu).2.2 hh
  have hkeep : ∀ h b, h ∈ hs → F h b → w1.heap[b]? = w.heap[b]? := fun h b hh hFb =>
    hw.same b (hm.old h b hFb).1 fun ⟨h', hn, hF'⟩ => hn (hm.apart h h' b hFb hF' ▸ hh)
  have hkeepI : ∀ b, I b → w1.heap[b]? = w.heap[b]? := fun b hI => hw.same b (hm.whole b hI) fun ⟨h', _, hF'⟩ => (hm.old h' b hF').2 hI
  have hsep : ∀ h h' b, h ∈ hs → F h b → h' ∉ hs → F1 h' b → False := fun h h' b hh hFb hh' hF1 => by
    rcases hw.ownd b ⟨h', hF1⟩ with ⟨g, hg, hFg⟩ | hnew
    · exact hg (hm.apart h g b hFb hFg ▸ hh)
    · exact absurd (hm.old h b hFb).1 (Nat.not_lt.2 hnew)
  refine ⟨fun h c hc => ?_, fun h h' b h1 h2 => ?_, fun h b hle => ?_, fun h b h1 => ?_, hm1.wh⟩
  · by_cases hh : h ∈ hs
    · rw [hin h hh] at hc
      have hlt : h < mem.length := by
        rcases Nat.lt_or_ge h mem.length with h' | h'
        · exact h'
        · rw [List.getElem?_eq_none h'] at hc; cases hc
      have := hm.chunk h c hc
      simp only [hh, if_true]
      rw [hlen]
      exact this.mono hlt hb hl hw.keep fun k hk => hk.elim (hkeepI k) (hkeep h k hh)
    · rw [hout h hh] at hc
      simp only [hh, if_false]
      rw [hlen]
      exact hm1.chunk h c hc
  · by_cases hh : h ∈ hs <;> by_cases hh' : h' ∈ hs <;> simp only [hh, hh', if_true, if_false] at h1 h2
    · exact hm.apart h h' b h1 h2
    · exact (hsep h h' b hh h1 hh' h2).elim
    · exact (hsep h' h b hh' h2 hh h1).elim
    · exact hm1.apart h h' b h1 h2
  · rw [hlen] at hle
    by_cases hh : h ∈ hs
    · simp only [hh, if_true]; exact hm.none h b (Nat.le_trans hl hle)
    · simp only [hh, if_false]; exact hm1.none h b hle
  · by_cases hh : h ∈ hs
    · simp only [hh, if_true] at h1
      obtain ⟨h2, h3⟩ := hm.old h b h1
      refine ⟨Nat.lt_of_lt_of_le h2 hw.size, fun hI1 => ?_⟩
      rcases hw.whole b hI1 with h4 | ⟨g, hg, hF⟩ | h4
      · exact h3 h4
      · exact hg (hm.apart h g b h1 hF ▸ hh)
      · exact absurd h2 (Nat.not_lt.2 h4)
    · simp only [hh, if_false] at h1
      exact hm1.old h b h1


/-! ### Soundness -/

/-- What the early-taken operation k needs of the worlds. -/
def Sof (R : List (Nat × Nat)) (I : Nat → Prop) (F : Nat → Nat → Prop) (w : World) (k : Nat) (w' : World) : Prop :=
  ∀ b, (I b ∨ ∃ h, (k, h) ∈ R ∧ F h b) → w'.heap[b]? = w.heap[b]?

omit [Objs O] in
theorem mem_aft {ops : Array Oper} {j k : Nat} {o : Oper} (ho : ops[j]? = some o) : Dep .any ops k j ↔ k ∈ aftOf o := by
  simp only [Dep, aftOf, List.mem_map, List.mem_filter]
  constructor
  · rintro ⟨o', ho', e, he, hb, rfl⟩
    rw [ho] at ho'; cases ho'
    exact ⟨e, ⟨by simpa using he, hb⟩, rfl⟩
  · rintro ⟨e, ⟨he, hb⟩, rfl⟩
    exact ⟨o, ho, e, by simpa using he, hb, rfl⟩

/-- A state in a world, with all that stands behind it laid open. -/
structure SatW (fr : Fr) (s : St O) (a : Act) (w : World) (β : Nat → HI) (I : Nat → Prop) (F : Nat → Nat → Prop) : Prop where
  defers : a.defers = []
  mem : MSat β I w F s.mem
  env : RelL β s.mem.length I w s.env a.tmps.toList
  went : Went fr.w fr.F fr.I w (fun b => ∃ h, F h b) I
  fix : ∀ h, h < fr.n → β h = fr.β h
  n : fr.n ≤ s.mem.length

theorem SatW.sat {fr : Fr} {s : St O} {a : Act} {w : World} {β : Nat → HI} {I : Nat → Prop} {F : Nat → Nat → Prop} (h : SatW fr s a w β I F) : Sat fr s a w :=
  ⟨h.defers, β, I, F, h.mem, h.env, h.went, h.fix, h.n⟩

theorem Sat.open_ {fr : Fr} {s : St O} {a : Act} {w : World} (h : Sat fr s a w) : ∃ β I F, SatW fr s a w β I F := by
  obtain ⟨hd, β, I, F, hm, he, hw, hb, hn⟩ := h
  exact ⟨β, I, F, hd, hm, he, hw, hb, hn⟩

theorem SatW.put {fr : Fr} {s : St O} {a : Act} {w : World} {β : Nat → HI} {I : Nat → Prop} {F : Nat → Nat → Prop} {d : Option Nat} {sv : SV} {v : Value} (h : SatW fr s a w β I F)
    (hv : Rel β s.mem.length I w sv v) : SatW fr (s.put d sv) (a.put d v) w β I F :=
  ⟨by rw [put_defers]; exact h.defers, by rw [put_mem]; exact h.mem, by rw [put_mem]; exact put_rel h.env hv, h.went, h.fix, by rw [put_mem]; exact h.n⟩

/-- An operation that writes, with what was read early laid aside. -/
theorem step_masked {P : Program} {o : Oper} {fr : Fr} {s : St O} {a : Act} {w : World} {β : Nat → HI} {I : Nat → Prop} {F : Nat → Nat → Prop} {hs : List Nat} (hnd : hs.Nodup) {K : St O → Prop}
    (hsat : SatW fr s a w β I F) (hv : vop std P o.dst (compOp P o.op) ⟨s.env, maskM hs s.mem⟩ fun s' => (match unmaskM s.mem hs s'.mem with
      | some m => K ⟨s'.env, m⟩
      | none => False)) {next : Act → World → Prop} {Q : Exit → Act → World → Prop}
    (hn : ∀ s' a' w' β' I' F', K s' → SatW fr s' a' w' β' I' F' → (∀ b, I b → I' b) → (∀ b, (I b ∨ ∃ h, h ∈ hs ∧ F h b) → w'.heap[b]? = w.heap[b]?) → (∀ h ∈ hs, ∀ b, F h b → F' h b) → next a' w') :
    o.wp P a w next Q := by
  let frM : Fr := ⟨w, fun b => ∃ h, h ∉ hs ∧ F h b, I, β, s.mem.length⟩
  have hM : Sat frM (⟨s.env, maskM hs s.mem⟩ : St O) a w := by
    refine ⟨hsat.defers, β, I, _, hsat.mem.mask hs, ?_, ?_, fun _ _ => rfl, ?_⟩
    · show RelL β (maskM hs s.mem).length I w s.env a.tmps.toList
      rw [maskM_length]; exact hsat.env
    · exact Went.refl _ _ _
    · show s.mem.length ≤ (maskM hs s.mem).length
      rw [maskM_length]; exact Nat.le_refl _
  refine (vop_sound o _ _ hv).semO frM a w hM next Q fun s' a' w' hK hs' => ?_
  obtain ⟨hd, β1, I1, F1, hm1, he1, hw1, hb1, hn1⟩ := hs'
  split at hK
  · rename_i m hu
    have hw1 : Went w (fun b => ∃ h, h ∉ hs ∧ F h b) I w' (fun b => ∃ h, F1 h b) I1 := hw1
    have hm2 := hsat.mem.unmask hnd hw1 hb1 hn1 hm1 hu
    have hlen : m.length = s'.mem.length := (unmaskM_get (h := 0) hnd hu).1
    have hkeep : ∀ b, (I b ∨ ∃ h, h ∈ hs ∧ F h b) → w'.heap[b]? = w.heap[b]? := by
      rintro b (hI | ⟨h, hh, hF⟩)
      · exact hw1.same b (hsat.mem.whole b hI) fun ⟨h', _, hF'⟩ => (hsat.mem.old h' b hF').2 hI
      · exact hw1.same b (hsat.mem.old h b hF).1 fun ⟨h', hn', hF'⟩ => hn' (hsat.mem.apart h h' b hF hF' ▸ hh)
    refine hn ⟨s'.env, m⟩ a' w' β1 I1 _ hK ⟨hd, hm2, ?_, ?_, ?_, ?_⟩ hw1.keep hkeep ?_
    · show RelL β1 m.length I1 w' s'.env a'.tmps.toList
      rw [hlen]; exact he1
    · refine hsat.went.trans ⟨hw1.os, hw1.tape, hw1.output, hw1.size, fun b hb hF => hw1.same b hb fun ⟨h, _, hF'⟩ => hF ⟨h, hF'⟩, hw1.frozen, hw1.keep, ?_, ?_⟩
      · rintro b ⟨h, hb⟩
        by_cases hh : h ∈ hs
        · simp only [hh, if_true] at hb; exact .inl ⟨h, hb⟩
        · simp only [hh, if_false] at hb
          exact (hw1.ownd b ⟨h, hb⟩).imp (fun ⟨g, _, hg⟩ => ⟨g, hg⟩) id
      · intro b hb
        exact (hw1.whole b hb).imp id (Or.imp (fun ⟨g, _, hg⟩ => ⟨g, hg⟩) id)
    · intro h hh
      rw [hb1 h (Nat.lt_of_lt_of_le hh hsat.n)]
      exact hsat.fix h hh
    · show fr.n ≤ m.length
      rw [hlen]; exact Nat.le_trans hsat.n hn1
    · intro h hh b hF
      simp only [hh, if_true]; exact hF
  · exact hK.elim

theorem andN_ok {P : Program} {m : DT} {R : List (Nat × Nat)} {s : St O} {K : St O → Prop} {p : Prop} (h : andN m p (vT std P m R s K)) : p ∧ vT std P m R s K := by
  cases m with
  | none => exact ⟨h, by simp only [vT]⟩
  | _ => exact h

theorem vT_sound {P : Program} {ops : Array Oper} {fr : Fr} {K : St O → Prop} {Q : Exit → Act → World → Prop} (hns : Region.noSelect ops = true)
    (hQ : ∀ s a w, K s → Sat fr s a w → Q .normal a w) (hQp : ∀ c a w, ¬ Q (.panic c) a w) :
    ∀ (fuel : Nat) (listed : Array Bool) (R : List (Nat × Nat)) (s : St O) (a : Act) (w : World) (β : Nat → HI) (I : Nat → Prop) (F : Nat → Nat → Prop),
      vT std P (planD P ops fuel listed) R s K → SatW fr s a w β I F → wpAnyG P .any ops Q fuel (Sof R I F w) listed a w := by
  intro fuel
  induction fuel with
  | zero =>
    intro listed R s a w β I F h hs
    simp only [planD] at h
    split at h
    · rename_i hr
      exact ⟨hr, hQ _ _ _ h hs.sat⟩
    · exact h.elim
  | succ fuel ih =>
    intro listed R s a w β I F h hs
    simp only [planD] at h
    split at h
    · rename_i hr
      exact ⟨fun _ => hQ _ _ _ h hs.sat, by rw [hr]; simp⟩
    · rename_i r rs hr
      split at h
      · rename_i i hfind
        have hmem := List.mem_of_find?_eq_some hfind
        have hprop := List.find?_some hfind
        rw [Bool.and_eq_true] at hprop
        split at h
        · rename_i o ho
          have hearly : early (compOp P o.op) = true := by have := hprop.1; simpa [earlyAt, ho] using this
          simp only [vT] at h
          obtain ⟨s', hmm, he', hcase⟩ := vG_ok h hs.env
          have hs' : SatW fr s' a w β I F := ⟨hs.defers, by rw [hmm]; exact hs.mem, by rw [hmm]; exact he', hs.went, hs.fix, by rw [hmm]; exact hs.n⟩
          rcases hcase with ⟨hw, h⟩ | ⟨hw, h⟩
          · have hz := vop_sound o s' _ h
            rw [SemZ, hearly] at hz
            obtain ⟨v, sv, hrun, hv, hK⟩ := hz a w β I F hs'.mem hs'.env
            refine wpAnyG.weaken (S1 := Sof (addR i (ldH s' (compOp P o.op)) R) I F w) (fun k w' hk b hb => hk b (hb.imp id fun ⟨h, hh, hF⟩ => ⟨h, addR_mem.2 (.inr hh), hF⟩)) ?_
            refine wpAnyG_take ho hns hprop.2 (by rw [hr]; exact hmem) (fun c a w hc => (hQp _ _ _ hc).elim) (.inl ⟨hw, fun w' hw' => hrun w' ?_⟩) (fun _ _ _ => rfl) (ih _ _ _ _ _ β I F hK (hs'.put hv))
            intro b hb
            exact hw' b (hb.imp id fun ⟨h, hh, hF⟩ => ⟨h, addR_mem.2 (.inl ⟨rfl, hh⟩), hF⟩)
          · refine wpAnyG_take ho hns hprop.2 (by rw [hr]; exact hmem) (fun c a w hc => (hQp _ _ _ hc).elim) (.inr ⟨hw, rfl⟩) (fun _ _ _ => rfl) (ih _ _ _ _ _ β I F h (hs'.put undef_rel))
        · exact h.elim
      · refine ⟨fun h0 => absurd h0 (by rw [hr]; simp), ?_⟩
        rw [hr]
        generalize r :: rs = l at h
        clear hr
        induction l with
        | nil => simp
        | cons i l ihl =>
          simp only [altsD] at h
          split at h
          · rename_i o ho
            simp only [vT] at h
            replace h := andN_ok h
            intro j hj
            rcases List.mem_cons.1 hj with rfl | hj
            · obtain ⟨s', hmm, he', hcase⟩ := vG_ok h.1 hs.env
              have hs' : SatW fr s' a w β I F := ⟨hs.defers, by rw [hmm]; exact hs.mem, by rw [hmm]; exact he', hs.went, hs.fix, by rw [hmm]; exact hs.n⟩
              simp only [wpOp, ho]
              rcases hcase with ⟨hw, h1⟩ | ⟨hw, h1⟩
              · rw [if_pos hw]
                refine .inl (step_masked (hs := heldOf (aftOf o) R) (K := fun s2 => vT std P (planD P ops fuel (listed.setIfInBounds j true)) (keepR (aftOf o) R) s2 K) (heldOf_nodup R) hs' h1 fun s2 a2 w2 β2 I2 F2 hK hs2 hI hkeep hF2 => ?_)
                refine ⟨Sof (keepR (aftOf o) R) I2 F2 w2, fun k hk w3 h3 b hb => ?_, fun _ _ _ => rfl, ih _ _ _ _ _ β2 I2 F2 hK hs2⟩
                have hk' : k ∉ aftOf o := fun hin => hk ((mem_aft ho).2 hin)
                have hb2 : I b ∨ ∃ h, h ∈ heldOf (aftOf o) R ∧ F h b := hb.imp id fun ⟨h, hR, hF⟩ => ⟨h, heldOf_mem.2 ⟨k, hR, hk'⟩, hF⟩
                rw [← hkeep b hb2]
                exact h3 b (hb.imp (hI b) fun ⟨h, hR, hF⟩ => ⟨h, keepR_mem.2 ⟨hR, hk'⟩, hF2 h (heldOf_mem.2 ⟨k, hR, hk'⟩) b hF⟩)
              · rw [if_neg (by simp [hw])]
                refine ⟨Sof (keepR (aftOf o) R) I F w, fun k hk w3 h3 b hb => ?_, fun _ _ _ => rfl, ih _ _ _ _ _ β I F h1 (hs'.put undef_rel)⟩
                have hk' : k ∉ aftOf o := fun hin => hk ((mem_aft ho).2 hin)
                exact h3 b (hb.imp id fun ⟨h, hR, hF⟩ => ⟨h, keepR_mem.2 ⟨hR, hk'⟩, hF⟩)
            · exact ihl h.2 j hj
          · exact h.elim

theorem SatW.drawn {fr : Fr} {s : St O} {a : Act} {w : World} {β : Nat → HI} {I : Nat → Prop} {F : Nat → Nat → Prop} (h : SatW fr s a w β I F) (n : Nat) : SatW fr s a { w with drawn := n } β I F where
  defers := h.defers
  mem := ⟨fun k c hc => CSat.mono (w := w) (w' := { w with drawn := n }) (by
      rcases Nat.lt_or_ge k s.mem.length with h' | h'
      · exact h'
      · rw [List.getElem?_eq_none h'] at hc; cases hc) (fun _ _ => rfl) (Nat.le_refl _) (fun _ h => h) (fun _ _ => rfl) (h.mem.chunk k c hc), h.mem.apart, h.mem.none, h.mem.old, h.mem.wh.1, h.mem.wh.2.mono (fun _ h => h) fun _ _ => rfl⟩
  env := RelL.mono (w := w) (w' := { w with drawn := n }) (fun _ _ => rfl) (Nat.le_refl _) (fun _ h => h) (fun _ _ => rfl) h.env
  went := h.went.trans ⟨rfl, rfl, rfl, Nat.le_refl _, fun _ _ _ => rfl, fun _ => rfl, fun _ h => h, fun _ h => .inl h, fun _ h => .inl h⟩
  fix := h.fix
  n := h.n

theorem vT_region {P : Program} {ops : Array Oper} {id : Nat} {fr : Fr} {K : St O → Prop} {Q : Exit → Act → World → Prop} {s : St O} {a : Act} {w : World} (hm : P.follows .mixedOrders = true)
    (hns : Region.noSelect ops = true) (h : vT std P (planD P ops ops.size (Array.replicate ops.size false)) [] s K) (hs : Sat fr s a w) (hQ : ∀ s a w, K s → Sat fr s a w → Q .normal a w)
    (hQp : ∀ c a w, ¬ Q (.panic c) a w) : (Code.region id ops true).wp P Q a w := by
  obtain ⟨β, I, F, hs⟩ := hs.open_
  exact wp_region_any hm (wpAnyG.any _ _ _ _ _ (vT_sound hns hQ hQp _ _ _ _ _ _ _ _ _ h (hs.drawn _)))

end Go.V
