/-
  Regions whose order is open: the conditions suffice.
-/
import Derived.Test.YtiaceoomiflgcaaVcgO
namespace Go.V

section
variable {P : Program} {md : Region.Mode} {ops : Array Oper} {Q : Exit → Act → World → Prop}

/-- Operation j waits for operation k. -/
def Dep (md : Region.Mode) (ops : Array Oper) (k j : Nat) : Prop := ∃ oj, ops[j]? = some oj ∧ ∃ e ∈ oj.after, Region.binds md e = true ∧ e.on = k

/-- The same, by way of others. -/
inductive DepT (md : Region.Mode) (ops : Array Oper) (k : Nat) : Nat → Prop where
  | one {j : Nat} (h : Dep md ops k j) : DepT md ops k j
  | step {m j : Nat} (h : DepT md ops k m) (h2 : Dep md ops m j) : DepT md ops k j

/-- Whatever has been listed, so has all that it waits for. -/
def Closed (md : Region.Mode) (ops : Array Oper) (listed : Array Bool) : Prop := ∀ m k, listed.getD m false = true → Dep md ops k m → listed.getD k false = true

theorem getD_not {listed : Array Bool} {i : Nat} (h : listed.getD i true = false) : ¬ listed.getD i false = true := by
  intro h1
  rcases Nat.lt_or_ge i listed.size with h' | h'
  · simp [h'] at h h1; rw [h] at h1; cases h1
  · simp [Array.getElem?_eq_none h'] at h1

theorem Closed.not_depT {listed : Array Bool} (hcl : Closed md ops listed) {i : Nat} (hi : listed.getD i true = false) : ∀ {m : Nat}, DepT md ops i m → ¬ listed.getD m false = true := by
  intro m h
  induction h with
  | one h => exact fun hm => getD_not hi (hcl _ _ hm h)
  | step _ h2 ih => exact fun hm => ih (hcl _ _ hm h2)

theorem ready_deps {listed : Array Bool} {j k : Nat} (hj : j ∈ Region.ready md ops listed) (h : Dep md ops k j) : listed.getD k false = true := by
  obtain ⟨_, o, ho, hall⟩ := mem_ready.1 hj
  obtain ⟨oj, hoj, e, he, hb, rfl⟩ := h
  rw [ho] at hoj
  cases hoj
  exact hall e he hb

theorem Closed.not_ready {listed : Array Bool} (hcl : Closed md ops listed) {i j : Nat} (hi : listed.getD i true = false) (hj : j ∈ Region.ready md ops listed) : ¬ DepT md ops i j := by
  intro h
  cases h with
  | one h => exact getD_not hi (ready_deps hj h)
  | step h h2 => exact hcl.not_depT hi h (ready_deps hj h2)

theorem Closed.set {listed : Array Bool} (hcl : Closed md ops listed) {j : Nat} (hj : j ∈ Region.ready md ops listed) : Closed md ops (listed.setIfInBounds j true) := by
  intro m k hm h
  refine getD_set_true ?_
  by_cases hmj : j = m
  · subst hmj; exact ready_deps hj h
  · rw [getD_set_ne false hmj] at hm
    exact hcl m k hm h

theorem Closed.none {n : Nat} : Closed md ops (Array.replicate n false) := by
  intro m k hm
  rcases Nat.lt_or_ge m n with h' | h'
  · simp [h'] at hm
  · simp [Nat.not_lt.2 h'] at hm

/-- Whatever order is picked from here on; S k: what an early-taken operation k needs of the worlds; it is kept by all that does not wait for k. -/
def wpAnyG (P : Program) (md : Region.Mode) (ops : Array Oper) (Q : Exit → Act → World → Prop) : Nat → (Nat → World → Prop) → Array Bool → Act → World → Prop
  | 0, _, listed, a, w => Region.ready md ops listed = [] ∧ Q .normal a w
  | fuel + 1, S, listed, a, w =>
    (Region.ready md ops listed = [] → Q .normal a w) ∧
    ∀ j ∈ Region.ready md ops listed, wpOp P ops Q j (fun a' w' => ∃ S' : Nat → World → Prop, (∀ k, ¬ DepT md ops k j → ∀ w, S' k w → S k w) ∧ (∀ k, S' k w') ∧
      wpAnyG P md ops Q fuel S' (listed.setIfInBounds j true) a' w') a w

theorem wpAnyG.any : ∀ (fuel : Nat) (S : Nat → World → Prop) (listed : Array Bool) (a : Act) (w : World), wpAnyG P md ops Q fuel S listed a w → wpAny P md ops Q fuel listed a w
  | 0, _, _, _, _, h => h
  | fuel + 1, _, _, _, _, h => ⟨h.1, fun i hi => wpOp_mono (fun a' w' ⟨S', _, _, h'⟩ => wpAnyG.any fuel S' _ a' w' h') (h.2 i hi)⟩

theorem wpAnyG.weaken {fuel : Nat} {S S1 : Nat → World → Prop} {listed : Array Bool} {a : Act} {w : World} (hS : ∀ k w, S1 k w → S k w) (h : wpAnyG P md ops Q fuel S1 listed a w) :
    wpAnyG P md ops Q fuel S listed a w := by
  cases fuel with
  | zero => exact h
  | succ fuel => exact ⟨h.1, fun i hi => wpOp_mono (fun a' w' ⟨S', h1, h2, h'⟩ => ⟨S', fun k hk w hw => hS k w (h1 k hk w hw), h2, h'⟩) (h.2 i hi)⟩

theorem wpAnyG_first {i : Nat} {oi : Oper} {v : Value} (hi : ops[i]? = some oi) (hsel : ∀ (j : Nat) (o : Oper) cs b, ops[j]? = some o → o.op ≠ .select cs b)
    (hQ : ∀ c a w, Q (.panic c) (a.put oi.dst v) w → Q (.panic c) a w) :
    ∀ (fuel : Nat) (S : Nat → World → Prop) (listed : Array Bool) (a : Act) (w : World), Closed md ops listed →
      (∀ j oj, ops[j]? = some oj → j ≠ i → listed.getD j true = false → (∀ e ∈ oj.after, Region.binds md e = true → e.on ≠ i) → oi.apart ops oj = true) →
      i ∈ Region.ready md ops listed → YieldsIf P ops (S i) oi v a → (∀ k, S k w) →
      wpAnyG P md ops Q fuel S (listed.setIfInBounds i true) (a.put oi.dst v) w → wpAnyG P md ops Q (fuel + 1) S listed a w := by
  intro fuel
  induction fuel with
  | zero =>
    intro S listed a w _ _ hr hy hS H
    refine ⟨fun h => (by rw [h] at hr; cases hr), fun j hj => ?_⟩
    by_cases hji : j = i
    · subst hji; exact hy.wpOp hi (hS _) ⟨S, fun _ _ _ h => h, hS, H⟩
    · have := ready_mono hj hji
      rw [H.1] at this
      cases this
  | succ fuel ih =>
    intro S listed a w hcl hfree hr hy hS H
    refine ⟨fun h => (by rw [h] at hr; cases hr), fun j hj => ?_⟩
    by_cases hji : j = i
    · subst hji; exact hy.wpOp hi (hS _) ⟨S, fun _ _ _ h => h, hS, H⟩
    · have h1 := H.2 j (ready_mono hj hji)
      obtain ⟨hjun, oj, hoj, hall⟩ := mem_ready.1 hj
      have hnot : ∀ e ∈ oj.after, Region.binds md e = true → e.on ≠ i := fun e he hb heq => by
        have h1 := hall e he hb
        have h0 := (mem_ready.1 hr).1
        rw [heq] at h1
        rcases Nat.lt_or_ge i listed.size with h' | h'
        · simp [h'] at h0 h1; rw [h0] at h1; cases h1
        · simp [Array.getElem?_eq_none h'] at h1
      have hndep : ¬ DepT md ops i j := hcl.not_ready (mem_ready.1 hr).1 hj
      have h2 := wpOp_putIf hoj (hfree j oj hoj hji hjun hnot) (fun cs b => hsel i oi cs b hi) (fun cs b => hsel j oj cs b hoj) hQ hy h1
      have hfree' : ∀ k ok, ops[k]? = some ok → k ≠ i → (listed.setIfInBounds j true).getD k true = false →
          (∀ e ∈ ok.after, Region.binds md e = true → e.on ≠ i) → oi.apart ops ok = true := fun k ok hk hki hun hno => by
        refine hfree k ok hk hki ?_ hno
        by_cases hjk : j = k
        · subst hjk; exact hjun
        · rw [getD_set_ne true hjk] at hun; exact hun
      refine wpOp_mono (fun a' w' h3 => ?_) h2
      obtain ⟨hy', S', hs1, hs2, h3⟩ := h3
      have hy2 : YieldsIf P ops (S' i) oi v a' := hy'.imp (fun ⟨hw, hv⟩ => ⟨hw, fun w h => hv w (hs1 i hndep w h)⟩) id
      refine ⟨S', hs1, hs2, ih S' (listed.setIfInBounds j true) a' w' (hcl.set hj) hfree' (ready_mono hr (Ne.symm hji)) hy2 hs2 ?_⟩
      rw [Array.setIfInBounds_comm _ _ hji]
      exact h3

theorem wpAnyG_take {i : Nat} {oi : Oper} {v : Value} {fuel : Nat} {S : Nat → World → Prop} {listed : Array Bool} {a : Act} {w : World} (hcl : Closed md ops listed) (hi : ops[i]? = some oi)
    (hs : Region.noSelect ops = true) (hf : Region.free md ops listed i = true) (hr : i ∈ Region.ready md ops listed)
    (hQ : ∀ c a w, Q (.panic c) (a.put oi.dst v) w → Q (.panic c) a w) (hy : YieldsIf P ops (S i) oi v a) (hS : ∀ k, S k w)
    (h : wpAnyG P md ops Q fuel S (listed.setIfInBounds i true) (a.put oi.dst v) w) : wpAnyG P md ops Q (fuel + 1) S listed a w :=
  wpAnyG_first hi (Region.noSelect_spec hs) hQ fuel S listed a w hcl (Region.free_spec hi hf) hr hy hS h
end

/-! ### Masks -/
section
variable {O : Type}

theorem memN_iff {n : Nat} : ∀ {l : List Nat}, memN n l = true ↔ n ∈ l
  | [] => by simp [memN]
  | x :: l => by
    simp only [memN]
    split
    · rename_i h
      have := Nat.eq_of_beq_eq_true h
      simp [this]
    · rename_i h
      have : n ≠ x := fun h' => by subst h'; simp at h
      simp [this, memN_iff]

theorem heldOf_mem {aft : List Nat} {h : Nat} : ∀ {R : List (Nat × Rd)}, h ∈ heldOf aft R ↔ ∃ k r, (k, r) ∈ R ∧ k ∉ aft ∧ r.open = false ∧ r.h = h
  | [] => by simp [heldOf]
  | (k, g) :: R => by
    have ih := heldOf_mem (aft := aft) (h := h) (R := R)
    simp only [heldOf]
    split
    · rename_i hb
      rw [Bool.or_eq_true, Bool.or_eq_true, memN_iff, memN_iff] at hb
      rw [ih]
      constructor
      · rintro ⟨k', r', h1, h2⟩; exact ⟨k', r', by simp [h1], h2⟩
      · rintro ⟨k', r', h1, h2, h3, h4⟩
        simp only [List.mem_cons, Prod.mk.injEq] at h1
        rcases h1 with ⟨rfl, rfl⟩ | h1
        · rcases hb with hb | hb | hb
          · exact (h2 hb).elim
          · rw [hb] at h3; cases h3
          · rw [h4] at hb; exact heldOf_mem.1 hb
        · exact ⟨k', r', h1, h2, h3, h4⟩
    · rename_i hb
      rw [Bool.or_eq_false_iff, Bool.or_eq_false_iff] at hb
      have hk : k ∉ aft := fun hk => by rw [memN_iff.2 hk] at hb; cases hb.1
      simp only [List.mem_cons, ih, Prod.mk.injEq]
      constructor
      · rintro (rfl | ⟨k', r', h1, h2⟩)
        · exact ⟨k, g, .inl ⟨rfl, rfl⟩, hk, hb.2.1, rfl⟩
        · exact ⟨k', r', .inr h1, h2⟩
      · rintro ⟨k', r', ⟨rfl, rfl⟩ | h1, h2, h3, h4⟩
        · exact .inl h4.symm
        · exact .inr ⟨k', r', h1, h2, h3, h4⟩

theorem heldOf_nodup {aft : List Nat} : ∀ (R : List (Nat × Rd)), (heldOf aft R).Nodup
  | [] => by simp [heldOf]
  | (k, g) :: R => by
    simp only [heldOf]
    split
    · exact heldOf_nodup R
    · rename_i hb
      rw [Bool.or_eq_false_iff, Bool.or_eq_false_iff] at hb
      exact List.nodup_cons.2 ⟨fun hm => by (rw [memN_iff.2 hm] at hb; exact Bool.noConfusion hb.2.2), heldOf_nodup R⟩

theorem keepR_eq {aft : List Nat} : ∀ {R : List (Nat × Rd)}, keepR aft R = R.filter fun x => !memN x.1 aft
  | [] => rfl
  | (k, g) :: R => by
    have ih := keepR_eq (aft := aft) (R := R)
    simp only [keepR, List.filter_cons]
    cases memN k aft <;> simp [ih]

theorem addR_eq {i : Nat} : ∀ {l : List Rd} {R : List (Nat × Rd)}, addR i l R = l.map (fun r => (i, r)) ++ R
  | [], R => rfl
  | g :: l, R => by simp [addR, addR_eq (l := l)]

theorem againR_mem {aft : List Nat} {mem : List (Chunk O)} : ∀ {R : List (Nat × Rd)}, againR aft mem R → ∀ k r, (k, r) ∈ R → k ∉ aft → r.open = true → ∃ c, lget mem r.h = some c ∧ ldC c r.p r.n = some r.sv
  | [], _, _, _, h, _, _ => by simp at h
  | (k', r') :: R, ha, k, r, h, h1, h2 => by
    simp only [againR] at ha
    split at ha
    · rename_i hb
      rcases List.mem_cons.1 h with e | h
      · cases e
        rw [Bool.or_eq_true, memN_iff] at hb
        rcases hb with hb | hb
        · exact (h1 hb).elim
        · rw [h2] at hb; cases hb
      · exact againR_mem ha k r h h1 h2
    · rcases List.mem_cons.1 h with e | h
      · cases e
        have := ha.1
        split at this
        · rename_i c hc; exact ⟨c, hc, this⟩
        · exact this.elim
      · exact againR_mem ha.2 k r h h1 h2

theorem noneR_again {aft : List Nat} {mem : List (Chunk O)} : ∀ {R : List (Nat × Rd)}, noneR aft R = true → againR aft mem R
  | [], _ => trivial
  | (k', r') :: R, h => by
    simp only [noneR, Bool.and_eq_true] at h
    simp only [againR, h.1]
    exact noneR_again h.2

theorem chkR_ok {aft : List Nat} {mem : List (Chunk O)} {R : List (Nat × Rd)} {q : Unit → Prop} (h : chkR aft mem R q) : againR aft mem R ∧ q () := by
  unfold chkR at h
  split at h
  · rename_i e; exact ⟨noneR_again e, h⟩
  · exact ⟨h.h, h.k⟩

theorem maskM_length : ∀ (hs : List Nat) (m : List (Chunk O)), (maskM hs m).length = m.length
  | [], _ => rfl
  | h :: hs, m => by simp [maskM, lset_eq, maskM_length hs m]

theorem maskM_get {h : Nat} : ∀ {hs : List Nat} {m : List (Chunk O)}, (maskM hs m)[h]? = if h ∈ hs ∧ h < m.length then some .gone else m[h]?
  | [], _ => by simp [maskM]
  | g :: hs, m => by
    have ih := maskM_get (h := h) (hs := hs) (m := m)
    simp only [maskM, lset_eq, List.getElem?_set, maskM_length, List.mem_cons]
    by_cases hg : g = h
    · subst hg
      by_cases hl : g < m.length
      · simp [hl]
      · simp [hl]
    · rw [if_neg hg, ih]
      simp [Ne.symm hg]

theorem unmaskM_get {m : List (Chunk O)} {h : Nat} : ∀ {hs : List Nat} {m1 m2 : List (Chunk O)}, hs.Nodup → unmaskM m hs m1 = some m2 →
    m2.length = m1.length ∧ (h ∈ hs → m2[h]? = m[h]?) ∧ (h ∉ hs → m2[h]? = m1[h]?)
  | [], m1, m2, _, e => by
    simp only [unmaskM, Option.some.injEq] at e
    subst e
    simp
  | g :: hs, m1, m2, hnd, e => by
    simp only [unmaskM] at e
    split at e
    · rename_i c h1 h2
      obtain ⟨hg, hnd⟩ := List.nodup_cons.1 hnd
      obtain ⟨h3, h4, h5⟩ := unmaskM_get (h := h) hnd e
      rw [lset_eq] at h3 h5
      refine ⟨by simpa using h3, fun hm => ?_, fun hm => ?_⟩
      · simp only [List.mem_cons] at hm
        by_cases hgh : h = g
        · subst hgh
          rw [h5 hg, List.getElem?_set_self]
          · rw [lget_eq] at h2; exact h2.symm
          · rw [lget_eq] at h1
            rcases Nat.lt_or_ge h m1.length with h' | h'
            · exact h'
            · rw [List.getElem?_eq_none h'] at h1; cases h1
        · exact h4 (hm.resolve_left hgh)
      · simp only [List.mem_cons, not_or] at hm
        rw [h5 hm.2, List.getElem?_set_ne (Ne.symm hm.1)]
    · cases e
end

variable {O : Type} [Objs O]

theorem MSat.size {β : Nat → HI} {I : Nat → Prop} {w : World} {F : Nat → Nat → Prop} {mem : List (Chunk O)} (h : MSat β I w F mem) {k b : Nat} (hb : F k b) : b < w.heap.size := (h.old k b hb).1

/-- Some chunks laid aside. -/
theorem MSat.mask {β : Nat → HI} {I : Nat → Prop} {w : World} {F : Nat → Nat → Prop} {mem : List (Chunk O)} (hm : MSat β I w F mem) (hs : List Nat) :
    MSat β I w (fun h b => h ∉ hs ∧ F h b) (maskM hs mem) where
  chunk h c hc := by
    rw [maskM_get] at hc
    rw [maskM_length]
    split at hc
    · rename_i hh
      simp only [Option.some.injEq] at hc
      subst hc
      exact fun b hb => hb.1 hh.1
    · rename_i hh
      have hlt : h < mem.length := by
        rcases Nat.lt_or_ge h mem.length with h' | h'
        · exact h'
        · rw [List.getElem?_eq_none h'] at hc; cases hc
      have hnot : h ∉ hs := fun hmem => hh ⟨hmem, hlt⟩
      have := hm.chunk h c hc
      have e : (fun b => h ∉ hs ∧ F h b) = F h := by funext b; simp [hnot]
      rw [e]; exact this
  apart h h' b h1 h2 := hm.apart h h' b h1.2 h2.2
  none h b hl hb := hm.none h b (by rw [maskM_length] at hl; exact hl) hb.2
  old h b hb := hm.old h b hb.2
  wh := hm.wh

/-- And taken up again, in a later world. -/
theorem MSat.unmask {β β1 : Nat → HI} {I I1 : Nat → Prop} {w w1 : World} {F F1 : Nat → Nat → Prop} {mem mem1 mem2 : List (Chunk O)} {hs : List Nat} (hm : MSat β I w F mem) (hnd : hs.Nodup)
    (hw : Went w (fun b => ∃ h, h ∉ hs ∧ F h b) I w1 (fun b => ∃ h, F1 h b) I1) (hb : ∀ h, h < mem.length → β1 h = β h) (hl : mem.length ≤ mem1.length) (hm1 : MSat β1 I1 w1 F1 mem1)
    (hu : unmaskM mem hs mem1 = some mem2) :
    MSat β1 I1 w1 (fun h b => if h ∈ hs then F h b else F1 h b) mem2 := by
  have hlen : mem2.length = mem1.length := (unmaskM_get (h := 0) hnd hu).1
  have hin : ∀ h ∈ hs, mem2[h]? = mem[h]? := fun h hh => (unmaskM_get hnd hu).2.1 hh
  have hout : ∀ h, h ∉ hs → mem2[h]? = mem1[h]? := fun h hh => (unmaskM_get hnd hu).2.2 hh
  have hkeep : ∀ h b, h ∈ hs → F h b → w1.heap[b]? = w.heap[b]? := fun h b hh hFb =>
    hw.same b (hm.old h b hFb).1 fun ⟨h', hn, hF'⟩ => hn (hm.apart h h' b hFb hF' ▸ hh)
  have hkeepI : ∀ b, I b → w1.heap[b]? = w.heap[b]? := fun b hI => hw.same b (hm.whole b hI) fun ⟨h', _, hF'⟩ => (hm.old h' b hF').2 hI
  have hsep : ∀ h h' b, h ∈ hs → F h b → h' ∉ hs → F1 h' b → False := fun h h' b hh hFb hh' hF1 => by
    rcases hw.ownd b ⟨h', hF1⟩ with ⟨g, hg, hFg⟩ | hnew
    · exact hg (hm.apart h g b hFb hFg ▸ hh)
    · exact absurd (hm.old h b hFb).1 (Nat.not_lt.2 hnew)
  refine ⟨fun h c hc => ?_, fun h h' b h1 h2 => ?_, fun h b hle => ?_, fun h b h1 => ?_, hm1.wh⟩
  · by_cases hh : h ∈ hs
    · rw [hin h hh] at hc
      have hlt : h < mem.length := by
        rcases Nat.lt_or_ge h mem.length with h' | h'
        · exact h'
        · rw [List.getElem?_eq_none h'] at hc; cases hc
      have := hm.chunk h c hc
      simp only [hh, if_true]
      rw [hlen]
      exact this.mono hlt hb hl hw.keep fun k hk => hk.elim (hkeepI k) (hkeep h k hh)
    · rw [hout h hh] at hc
      simp only [hh, if_false]
      rw [hlen]
      exact hm1.chunk h c hc
  · by_cases hh : h ∈ hs <;> by_cases hh' : h' ∈ hs <;> simp only [hh, hh', if_true, if_false] at h1 h2
    · exact hm.apart h h' b h1 h2
    · exact (hsep h h' b hh h1 hh' h2).elim
    · exact (hsep h' h b hh' h2 hh h1).elim
    · exact hm1.apart h h' b h1 h2
  · rw [hlen] at hle
    by_cases hh : h ∈ hs
    · simp only [hh, if_true]; exact hm.none h b (Nat.le_trans hl hle)
    · simp only [hh, if_false]; exact hm1.none h b hle
  · by_cases hh : h ∈ hs
    · simp only [hh, if_true] at h1
      obtain ⟨h2, h3⟩ := hm.old h b h1
      refine ⟨Nat.lt_of_lt_of_le h2 hw.size, fun hI1 => ?_⟩
      rcases hw.whole b hI1 with h4 | ⟨g, hg, hF⟩ | h4
      · exact h3 h4
      · exact hg (hm.apart h g b h1 hF ▸ hh)
      · exact absurd h2 (Nat.not_lt.2 h4)
    · simp only [hh, if_false] at h1
      exact hm1.old h b h1

/-! ### Soundness -/

/-- What the early-taken operation k needs of the worlds. -/
def Sof (RS : List ((Nat × Rd) × (World → Prop))) (I : Nat → Prop) (w : World) (k : Nat) (w' : World) : Prop :=
  (∀ b, I b → w'.heap[b]? = w.heap[b]?) ∧ ∀ x ∈ RS, x.1.1 = k → x.2 w'

/-- Whatever the worlds do from here on: when what was read early is as it was. -/
def Pend (x : (Nat × Rd) × (World → Prop)) (β : Nat → HI) (I : Nat → Prop) (F : Nat → Nat → Prop) (w : World) (mem : List (Chunk O)) : Prop :=
  match x.1.2.open with
  | true => (∃ c, lget mem x.1.2.h = some c ∧ ldC c x.1.2.p x.1.2.n = some x.1.2.sv) ∧
      ∀ (β' : Nat → HI) (N' : Nat) (I' : Nat → Prop) (w' : World) (G : Nat → Prop) (c : Chunk O), CSat β' N' I' w' x.1.2.h G c → mem.length ≤ N' → (∀ h, h < mem.length → β' h = β h) → ldC c x.1.2.p x.1.2.n = some x.1.2.sv → x.2 w'
  | false => ∀ w', (∀ b, (I b ∨ F x.1.2.h b) → w'.heap[b]? = w.heap[b]?) → x.2 w'

mutual
theorem det_eq {β β' : Nat → HI} {N N' : Nat} {I I' : Nat → Prop} {w w' : World} (hβ : ∀ h, h < N → β' h = β h) : ∀ {s : SV} {v v' : Value}, det s = true → Rel β N I w s v → Rel β' N' I' w' s v' → v' = v
  | .junk, _, _, h, _, _ | .win .., _, _, h, _, _ | .pseq .., _, _, h, _, _ => by simp [det] at h
  | .dv d, v, v', h, h1, h2 => by
    simp only [Rel] at h1 h2
    cases d <;> simp only [det, Bool.false_eq_true] at h <;> simp only [DRel] at h1 h2 <;> rw [h1, h2]
  | .ptr .., _, _, _, h1, h2 | .pat .., _, _, _, h1, h2 => by
    simp only [Rel] at h1 h2
    rw [h2.2, h1.2, hβ _ (by first | exact h1.1 | exact h1.1.1)]
  | .vec .., _, _, _, h1, h2 | .mp .., _, _, _, h1, h2 => by
    simp only [Rel] at h1 h2
    rw [h2.2, h1.2, hβ _ h1.1]
  | .gp _, _, _, _, h1, h2 => by
    simp only [Rel] at h1 h2
    rw [h1, h2]
  | .agg l, _, _, h, h1, h2 => by
    simp only [Rel] at h1 h2
    obtain ⟨cs, rfl, h1⟩ := h1
    obtain ⟨cs', rfl, h2⟩ := h2
    rw [dets_eq hβ (by simpa only [det] using h) h1 h2]
  | .tup l, _, _, h, h1, h2 => by
    simp only [Rel] at h1 h2
    obtain ⟨cs, rfl, h1⟩ := h1
    obtain ⟨cs', rfl, h2⟩ := h2
    rw [dets_eq hβ (by simpa only [det] using h) h1 h2]
  | .fn f l, _, _, h, h1, h2 => by
    simp only [Rel] at h1 h2
    obtain ⟨cs, rfl, h1⟩ := h1
    obtain ⟨cs', rfl, h2⟩ := h2
    rw [dets_eq hβ (by simpa only [det] using h) h1 h2]
  | .bfn f l, _, _, h, h1, h2 => by
    simp only [Rel] at h1 h2
    obtain ⟨cs, rfl, h1⟩ := h1
    obtain ⟨cs', rfl, h2⟩ := h2
    rw [dets_eq hβ (by simpa only [det] using h) h1 h2]
  | .mfn m x, _, _, h, h1, h2 => by
    simp only [Rel] at h1 h2
    obtain ⟨y, rfl, h1⟩ := h1
    obtain ⟨y', rfl, h2⟩ := h2
    rw [det_eq hβ (by simpa only [det] using h) h1 h2]
  | .ifc t x, _, _, h, h1, h2 => by
    simp only [Rel] at h1 h2
    obtain ⟨y, rfl, h1⟩ := h1
    obtain ⟨y', rfl, h2⟩ := h2
    rw [det_eq hβ (by simpa only [det] using h) h1 h2]
theorem dets_eq {β β' : Nat → HI} {N N' : Nat} {I I' : Nat → Prop} {w w' : World} (hβ : ∀ h, h < N → β' h = β h) : ∀ {l : List SV} {vs vs' : List Value}, dets l = true → RelL β N I w l vs → RelL β' N' I' w' l vs' → vs' = vs
  | [], _, _, _, h1, h2 => by
    simp only [RelL] at h1 h2
    rw [h1, h2]
  | x :: l, _, _, h, h1, h2 => by
    simp only [RelL] at h1 h2
    obtain ⟨y, ys, rfl, h3, h4⟩ := h1
    obtain ⟨y', ys', rfl, h5, h6⟩ := h2
    simp only [dets, Bool.and_eq_true] at h
    rw [det_eq hβ h.1 h3 h5, dets_eq hβ h.2 h4 h6]
end

/-- What an operation of loading is. -/
theorem ld_op {P : Program} {op : Op} {n : Option Nat} {y : X} (h : compOp P op = .ld n y) : ∃ t x, op = .load t x ∧ ldT P t = some n ∧ y = cX x := by
  cases op with
  | load t x =>
    simp only [compOp] at h
    split at h
    · rename_i n' hl
      simp only [Ins.ld.injEq] at h
      exact ⟨t, x, rfl, by rw [hl, h.1], h.2.symm⟩
    · cases h
  | _ =>
    simp only [compOp] at h
    repeat' (split at h)
    all_goals first | contradiction | (cases h; done)

/-- What is loaded from a chunk. -/
theorem load_det {P : Program} {o : Oper} {a : Act} {w : World} {β : Nat → HI} {N : Nat} {I G : Nat → Prop} {h p : Nat} {n : Option Nat} {c : Chunk O} {sv : SV} {t : TypeId} {x : Operand} (ho : o.op = .load t x) (hl : ldT P t = some n)
    (hx : a.eval x = .pointer (some ⟨(β h).blk, (β h).off + p, none⟩)) (hc : CSat β N I w h G c) (hv : ldC c (.ptr h p) n = some sv) :
    ∃ v, (execOp a.eval o).run P w = .ok (.value v) w ∧ Rel β N I w sv v := by
  unfold ldC at hv
  split at hv
  · rename_i ss _ o' e
    cases e
    simp only [CSat] at hc
    obtain ⟨hF, hpl, cs, T, hb, hss⟩ := hc
    obtain ⟨v, hv1, hv2⟩ := segGet_ok hss hv
    rw [Nat.zero_add] at hv1
    refine ⟨v, ?_, hv2⟩
    rw [hpl.1, Nat.zero_add] at hx
    simp only [execOp, ho, hx, Instr.loadAt, Instr.sureAddr]
    have := run_load1 (P := P) (w := w) (a := ⟨(β h).blk, p, none⟩) (v := v) hl (by rw [cell_of hb]; exact hv1)
    simp [this]
  · rename_i ss _ o' m e
    cases e
    split at hv
    · rename_i l hl'
      simp only [Option.some.injEq] at hv
      subst hv
      simp only [CSat] at hc
      obtain ⟨hF, hpl, cs, T, hb, hss⟩ := hc
      obtain ⟨xs, hxl, hxr, hxs⟩ := segTake_ok hss hl'
      refine ⟨.agg xs.toArray, ?_, by simp only [Rel]; exact ⟨xs, rfl, hxr⟩⟩
      rw [hpl.1, Nat.zero_add] at hx
      simp only [execOp, ho, hx, Instr.loadAt, Instr.sureAddr]
      have := run_loadN (P := P) (w := w) (a := ⟨(β h).blk, p, none⟩) hl hxl (fun j v hj => by rw [add_addr, cell_of hb]; exact hxs j v hj)
      simp [this]
    · cases hv
  · cases hv

omit [Objs O] in
theorem mem_aft {ops : Array Oper} {j k : Nat} {o : Oper} (ho : ops[j]? = some o) : Dep .any ops k j ↔ k ∈ aftOf o := by
  simp only [Dep, aftOf, List.mem_map, List.mem_filter]
  constructor
  · rintro ⟨o', ho', e, he, hb, rfl⟩
    rw [ho] at ho'; cases ho'
    exact ⟨e, ⟨by simpa using he, hb⟩, rfl⟩
  · rintro ⟨e, ⟨he, hb⟩, rfl⟩
    exact ⟨o, ho, e, by simpa using he, hb, rfl⟩

omit [Objs O] in
theorem anc_ok {ops : Array Oper} {j : Nat} : ∀ (f : Nat) (todo dn : List Nat), (∀ x ∈ todo, DepT .any ops x j) → (∀ x ∈ dn, DepT .any ops x j) → ∀ x ∈ anc ops f todo dn, DepT .any ops x j
  | 0, _, _, _, hd => hd
  | _ + 1, [], _, _, hd => hd
  | f + 1, x :: todo, dn, ht, hd => by
    simp only [anc]
    split
    · exact anc_ok f todo dn (fun y hy => ht y (List.mem_cons_of_mem _ hy)) hd
    · have hx := ht x (List.mem_cons_self ..)
      refine anc_ok f _ _ (fun y hy => ?_) (fun y hy => ?_)
      · rcases List.mem_append.1 hy with hy | hy
        · unfold depsOf at hy
          split at hy
          · rename_i o ho
            have hyx : Dep .any ops y x := (mem_aft ho).2 hy
            clear ht hd
            induction hx with
            | one h => exact .step (.one hyx) h
            | step _ h2 ih => exact .step ih h2
          · simp at hy
        · exact ht y (List.mem_cons_of_mem _ hy)
      · rcases List.mem_cons.1 hy with rfl | hy
        · exact hx
        · exact hd y hy

omit [Objs O] in
theorem mem_aftT {ops : Array Oper} {j k : Nat} {o : Oper} (ho : ops[j]? = some o) (h : k ∈ aftT ops o) : DepT .any ops k j :=
  anc_ok _ _ _ (fun _ hx => .one ((mem_aft ho).2 hx)) (fun _ hx => by simp at hx) k h

/-- A state in a world, with all that stands behind it laid open. -/
structure SatW (fr : Fr) (s : St O) (a : Act) (w : World) (β : Nat → HI) (I : Nat → Prop) (F : Nat → Nat → Prop) : Prop where
  defers : a.defers = []
  mem : MSat β I w F s.mem
  env : RelL β s.mem.length I w s.env a.tmps.toList
  went : Went fr.w fr.F fr.I w (fun b => ∃ h, F h b) I
  fix : ∀ h, h < fr.n → β h = fr.β h
  n : fr.n ≤ s.mem.length

theorem SatW.sat {fr : Fr} {s : St O} {a : Act} {w : World} {β : Nat → HI} {I : Nat → Prop} {F : Nat → Nat → Prop} (h : SatW fr s a w β I F) : Sat fr s a w :=
  ⟨h.defers, β, I, F, h.mem, h.env, h.went, h.fix, h.n⟩

theorem Sat.open_ {fr : Fr} {s : St O} {a : Act} {w : World} (h : Sat fr s a w) : ∃ β I F, SatW fr s a w β I F := by
  obtain ⟨hd, β, I, F, hm, he, hw, hb, hn⟩ := h
  exact ⟨β, I, F, hd, hm, he, hw, hb, hn⟩

theorem SatW.put {fr : Fr} {s : St O} {a : Act} {w : World} {β : Nat → HI} {I : Nat → Prop} {F : Nat → Nat → Prop} {d : Option Nat} {sv : SV} {v : Value} (h : SatW fr s a w β I F)
    (hv : Rel β s.mem.length I w sv v) : SatW fr (s.put d sv) (a.put d v) w β I F :=
  ⟨by rw [put_defers]; exact h.defers, by rw [put_mem]; exact h.mem, by rw [put_mem]; exact put_rel h.env hv, h.went, h.fix, by rw [put_mem]; exact h.n⟩

/-- An operation that writes, with what was read early laid aside. -/
theorem step_masked {P : Program} {o : Oper} {fr : Fr} {s : St O} {a : Act} {w : World} {β : Nat → HI} {I : Nat → Prop} {F : Nat → Nat → Prop} {hs : List Nat} (hnd : hs.Nodup) {K : St O → Prop}
    (hsat : SatW fr s a w β I F) (hv : vop std P o.dst (compOp P o.op) ⟨s.env, maskM hs s.mem⟩ fun s' => (match unmaskM s.mem hs s'.mem with
      | some m => K ⟨s'.env, m⟩
      | none => False)) {next : Act → World → Prop} {Q : Exit → Act → World → Prop}
    (hn : ∀ s' a' w' β' I' F', K s' → SatW fr s' a' w' β' I' F' → (∀ b, I b → I' b) → (∀ b, (I b ∨ ∃ h, h ∈ hs ∧ F h b) → w'.heap[b]? = w.heap[b]?) → (∀ h ∈ hs, ∀ b, F h b → F' h b) →
      (∀ h, h < s.mem.length → β' h = β h) → s.mem.length ≤ s'.mem.length → next a' w') :
    o.wp P a w next Q := by
  let frM : Fr := ⟨w, fun b => ∃ h, h ∉ hs ∧ F h b, I, β, s.mem.length⟩
  have hM : Sat frM (⟨s.env, maskM hs s.mem⟩ : St O) a w := by
    refine ⟨hsat.defers, β, I, _, hsat.mem.mask hs, ?_, ?_, fun _ _ => rfl, ?_⟩
    · show RelL β (maskM hs s.mem).length I w s.env a.tmps.toList
      rw [maskM_length]; exact hsat.env
    · exact Went.refl _ _ _
    · show s.mem.length ≤ (maskM hs s.mem).length
      rw [maskM_length]; exact Nat.le_refl _
  refine (vop_sound o _ _ hv).semO frM a w hM next Q fun s' a' w' hK hs' => ?_
  obtain ⟨hd, β1, I1, F1, hm1, he1, hw1, hb1, hn1⟩ := hs'
  split at hK
  · rename_i m hu
    have hw1 : Went w (fun b => ∃ h, h ∉ hs ∧ F h b) I w' (fun b => ∃ h, F1 h b) I1 := hw1
    have hm2 := hsat.mem.unmask hnd hw1 hb1 hn1 hm1 hu
    have hlen : m.length = s'.mem.length := (unmaskM_get (h := 0) hnd hu).1
    have hkeep : ∀ b, (I b ∨ ∃ h, h ∈ hs ∧ F h b) → w'.heap[b]? = w.heap[b]? := by
      rintro b (hI | ⟨h, hh, hF⟩)
      · exact hw1.same b (hsat.mem.whole b hI) fun ⟨h', _, hF'⟩ => (hsat.mem.old h' b hF').2 hI
      · exact hw1.same b (hsat.mem.old h b hF).1 fun ⟨h', hn', hF'⟩ => hn' (hsat.mem.apart h h' b hF hF' ▸ hh)
    refine hn ⟨s'.env, m⟩ a' w' β1 I1 _ hK ⟨hd, hm2, ?_, ?_, ?_, ?_⟩ hw1.keep hkeep ?_ hb1 (by show s.mem.length ≤ m.length; rw [hlen]; exact hn1)
    · show RelL β1 m.length I1 w' s'.env a'.tmps.toList
      rw [hlen]; exact he1
    · refine hsat.went.trans ⟨hw1.os, hw1.tape, hw1.output, hw1.size, fun b hb hF => hw1.same b hb fun ⟨h, _, hF'⟩ => hF ⟨h, hF'⟩, hw1.frozen, hw1.keep, ?_, ?_⟩
      · rintro b ⟨h, hb⟩
        by_cases hh : h ∈ hs
        · simp only [hh, if_true] at hb; exact .inl ⟨h, hb⟩
        · simp only [hh, if_false] at hb
          exact (hw1.ownd b ⟨h, hb⟩).imp (fun ⟨g, _, hg⟩ => ⟨g, hg⟩) id
      · intro b hb
        exact (hw1.whole b hb).imp id (Or.imp (fun ⟨g, _, hg⟩ => ⟨g, hg⟩) id)
    · intro h hh
      rw [hb1 h (Nat.lt_of_lt_of_le hh hsat.n)]
      exact hsat.fix h hh
    · show fr.n ≤ m.length
      rw [hlen]; exact Nat.le_trans hsat.n hn1
    · intro h hh b hF
      simp only [hh, if_true]; exact hF
  · exact hK.elim

theorem andN_ok {P : Program} {m : DT} {R : List (Nat × Rd)} {s : St O} {K : St O → Prop} {p : Prop} (h : andN m p (vT std P m R s K)) : p ∧ vT std P m R s K := by
  cases m with
  | none => exact ⟨h, by simp only [vT]⟩
  | _ => exact h

theorem Pend.now {x : (Nat × Rd) × (World → Prop)} {β : Nat → HI} {I : Nat → Prop} {F : Nat → Nat → Prop} {w : World} {mem : List (Chunk O)} (h : Pend x β I F w mem) (hm : MSat β I w F mem) : x.2 w := by
  unfold Pend at h
  split at h
  · obtain ⟨⟨c, hc, hv⟩, h⟩ := h
    exact h β mem.length I w (F x.1.2.h) c (lget_chunk hm hc) (Nat.le_refl _) (fun _ _ => rfl) hv
  · exact h w fun _ _ => rfl

/-- What is waited for is waited for, an operation further on, too. -/
theorem Pend.step {x : (Nat × Rd) × (World → Prop)} {β β2 : Nat → HI} {I I2 : Nat → Prop} {F F2 : Nat → Nat → Prop} {w w2 : World} {mem mem2 : List (Chunk O)} (h : Pend x β I F w mem)
    (hβ : ∀ h, h < mem.length → β2 h = β h) (hN : mem.length ≤ mem2.length) (hI : ∀ b, I b → I2 b)
    (hop : x.1.2.open = true → ∃ c, lget mem2 x.1.2.h = some c ∧ ldC c x.1.2.p x.1.2.n = some x.1.2.sv)
    (hcl : x.1.2.open = false → (∀ b, (I b ∨ F x.1.2.h b) → w2.heap[b]? = w.heap[b]?) ∧ ∀ b, F x.1.2.h b → F2 x.1.2.h b) : Pend x β2 I2 F2 w2 mem2 := by
  unfold Pend at h ⊢
  split
  · rename_i e
    rw [e] at h
    obtain ⟨_, h⟩ := h
    exact ⟨hop e, fun β' N' I' w' G c hc hN' hβ' hv => h β' N' I' w' G c hc (Nat.le_trans hN hN') (fun g hg => (hβ' g (Nat.lt_of_lt_of_le hg hN)).trans (hβ g hg)) hv⟩
  · rename_i e
    rw [e] at h
    obtain ⟨h1, h2⟩ := hcl e
    intro w' hw'
    refine h w' fun b hb => (hw' b (hb.imp (hI b) (h2 b))).trans (h1 b hb)

theorem vT_sound {P : Program} {ops : Array Oper} {fr : Fr} {K : St O → Prop} {Q : Exit → Act → World → Prop} (hns : Region.noSelect ops = true)
    (hQ : ∀ s a w, K s → Sat fr s a w → Q .normal a w) (hQp : ∀ c a w, ¬ Q (.panic c) a w) :
    ∀ (fuel : Nat) (listed : Array Bool) (RS : List ((Nat × Rd) × (World → Prop))) (s : St O) (a : Act) (w : World) (β : Nat → HI) (I : Nat → Prop) (F : Nat → Nat → Prop), Closed .any ops listed →
      vT std P (planD P ops fuel listed) (RS.map (·.1)) s K → SatW fr s a w β I F → (∀ x ∈ RS, Pend x β I F w s.mem) → wpAnyG P .any ops Q fuel (Sof RS I w) listed a w := by
  intro fuel
  induction fuel with
  | zero =>
    intro listed RS s a w β I F hcl h hs _
    simp only [planD] at h
    split at h
    · rename_i hr
      exact ⟨hr, hQ _ _ _ h hs.sat⟩
    · exact h.elim
  | succ fuel ih =>
    intro listed RS s a w β I F hcl h hs hP
    simp only [planD] at h
    split at h
    · rename_i hr
      exact ⟨fun _ => hQ _ _ _ h hs.sat, by rw [hr]; simp⟩
    · rename_i r rs hr
      split at h
      · rename_i i hfind
        have hmem := List.mem_of_find?_eq_some hfind
        have hprop := List.find?_some hfind
        rw [Bool.and_eq_true] at hprop
        split at h
        · rename_i o ho
          have hearly : early (compOp P o.op) = true := by have := hprop.1; simpa [earlyAt, ho] using this
          simp only [vT] at h
          obtain ⟨s', hmm, he', hcase⟩ := vG_ok h hs.env
          have hs' : SatW fr s' a w β I F := ⟨hs.defers, by rw [hmm]; exact hs.mem, by rw [hmm]; exact he', hs.went, hs.fix, by rw [hmm]; exact hs.n⟩
          have hcl' : Closed .any ops (listed.setIfInBounds i true) := hcl.set (by rw [hr]; exact hmem)
          rcases hcase with ⟨hw, h⟩ | ⟨hw, h⟩
          · have hz := vop_sound o s' _ h
            rw [SemZ, hearly] at hz
            obtain ⟨v, sv, hrun, hv, hK⟩ := hz a w β I F hs'.mem hs'.env
            -- what it tells, is told again
            let hold : World → Prop := fun w' => (execOp a.eval o).run P w' = .ok (.value v) w'
            let RS1 : List ((Nat × Rd) × (World → Prop)) := (rdOf s' (compOp P o.op)).map (fun r => ((i, r), hold)) ++ RS
            have hmap : RS1.map (·.1) = addR i (rdOf s' (compOp P o.op)) (RS.map (·.1)) := by simp [RS1, addR_eq, Function.comp_def]
            have hP1 : ∀ x ∈ RS1, Pend x β I F w (s'.put o.dst sv).mem := by
              intro x hx
              rw [put_mem]
              rcases List.mem_append.1 hx with hx | hx
              · obtain ⟨r, hrd, rfl⟩ := List.mem_map.1 hx
                have hclosed : r.open = false → (∀ w', AgrL (ldH s' (compOp P o.op)) I F w w' → hold w') → (r.h ∈ ldH s' (compOp P o.op) ∧ ∀ g ∈ ldH s' (compOp P o.op), g = r.h) → Pend ((i, r), hold) β I F w s'.mem := by
                  intro e h1 h2
                  unfold Pend
                  simp only [e]
                  intro w' hw'
                  exact h1 w' fun b hb => hw' b (hb.imp id fun ⟨g, hg, hF⟩ => h2.2 g hg ▸ hF)
                cases hi : compOp P o.op with
                | ld n y =>
                  rw [hi] at hrd hclosed hrun
                  simp only [rdOf] at hrd
                  split at hrd
                  · rename_i h0 p0 hy
                    simp only [List.mem_singleton] at hrd
                    cases hop : r.open with
                    | false =>
                      exact hclosed hop hrun (by rw [hrd]; simp [ldH, hy])
                    | true =>
                      obtain ⟨t, x, hox, hl, rfl⟩ := ld_op hi
                      have hxr := ev_rel hs'.env x
                      rw [hy] at hxr
                      simp only [Rel] at hxr
                      have hr' := hrd
                      -- the chunk is there, and what stands in it
                      obtain ⟨c, hc, hv0⟩ : ∃ c, lget s'.mem h0 = some c ∧ ldC c (.ptr h0 p0) n = some r.sv := by
                        have hdet : det r.sv = true := by
                          simp only [Rd.open, Bool.and_eq_true] at hop
                          exact hop.2
                        rw [hrd] at hdet ⊢
                        simp only at hdet ⊢
                        split at hdet
                        · rename_i c hc
                          split at hdet
                          · rename_i v0 hv0
                            exact ⟨c, hc, hv0⟩
                          · simp [det] at hdet
                        · simp [det] at hdet
                      have hdet : det r.sv = true := by
                        simp only [Rd.open, Bool.and_eq_true] at hop
                        exact hop.2
                      obtain ⟨v1, hrun1, hv1⟩ := load_det (P := P) hox hl hxr.2 (lget_chunk hs'.mem hc) hv0
                      have e1 : v = v1 := by
                        have := (hrun w (AgrL.refl _ _ _ _)).symm.trans hrun1
                        simpa using this
                      subst e1
                      have hrh : r.h = h0 ∧ r.p = .ptr h0 p0 ∧ r.n = n := by rw [hrd]; exact ⟨rfl, rfl, rfl⟩
                      unfold Pend
                      simp only [hop, hrh.1, hrh.2.1, hrh.2.2]
                      refine ⟨⟨c, hc, hv0⟩, fun β' N' I' w' G c' hc' hN' hβ' hv' => ?_⟩
                      obtain ⟨v2, hrun2, hv2⟩ := load_det (P := P) (a := a) hox hl (by rw [hβ' h0 hxr.1]; exact hxr.2) hc' hv'
                      have := det_eq hβ' hdet hv1 hv2
                      subst this
                      exact hrun2
                  · rename_i h0 _ _ _ _ _ hy
                    simp only [List.mem_singleton] at hrd
                    exact hclosed (by rw [hrd]; rfl) hrun (by rw [hrd]; simp [ldH, hy])
                  · cases hrd
                | _ => rw [hi] at hrd; simp [rdOf] at hrd
              · have := hP x hx
                rw [hmm]
                exact this
            replace hK : vT std P (planD P ops fuel (listed.setIfInBounds i true)) (RS1.map (·.1)) (s'.put o.dst sv) K := by rw [hmap]; exact hK
            refine wpAnyG.weaken (S1 := Sof RS1 I w) (fun k w' hk => ⟨hk.1, fun x hx => hk.2 x (List.mem_append_right _ hx)⟩) ?_
            refine wpAnyG_take hcl ho hns hprop.2 (by rw [hr]; exact hmem) (fun c a w hc => (hQp _ _ _ hc).elim) (.inl ⟨hw, fun w' hw' => ?_⟩) (fun k => ⟨fun _ _ => rfl, fun x hx _ => (hP1 x hx).now (by rw [put_mem]; exact hs'.mem)⟩)
              (ih _ _ _ _ _ β I F hcl' hK (hs'.put hv) hP1)
            -- in whatever world it comes up
            rcases hrl : rdOf s' (compOp P o.op) with _ | ⟨r, rl⟩
            · refine hrun w' fun b hb => hw'.1 b (hb.resolve_right ?_)
              rintro ⟨g, hg, _⟩
              cases hi : compOp P o.op with
              | ld n y =>
                rw [hi] at hg hrl
                simp only [ldH] at hg
                simp only [rdOf] at hrl
                split at hg
                · rename_i e; rw [e] at hrl; cases hrl
                · rename_i e; rw [e] at hrl; cases hrl
                · simp at hg
              | _ => rw [hi] at hg; simp [ldH] at hg
            · exact hw'.2 ((i, r), hold) (List.mem_append_left _ (by rw [hrl]; simp)) rfl
          · refine wpAnyG_take hcl ho hns hprop.2 (by rw [hr]; exact hmem) (fun c a w hc => (hQp _ _ _ hc).elim) (.inr ⟨hw, rfl⟩) (fun k => ⟨fun _ _ => rfl, fun x hx _ => (hP x hx).now hs.mem⟩)
              (ih _ _ _ _ _ β I F hcl' h (hs'.put undef_rel) fun x hx => by rw [put_mem, hmm]; exact hP x hx)
        · exact h.elim
      · refine ⟨fun h0 => absurd h0 (by rw [hr]; simp), ?_⟩
        rw [hr]
        have hset : ∀ j ∈ r :: rs, Closed .any ops (listed.setIfInBounds j true) := fun j hj => hcl.set (by rw [hr]; exact hj)
        generalize r :: rs = l at h hset
        clear hr
        induction l with
        | nil => simp
        | cons i l ihl =>
          simp only [altsD] at h
          split at h
          · rename_i o ho
            simp only [vT] at h
            replace h := andN_ok h
            intro j hj
            rcases List.mem_cons.1 hj with rfl | hj
            · obtain ⟨s', hmm, he', hcase⟩ := vG_ok h.1 hs.env
              have hs' : SatW fr s' a w β I F := ⟨hs.defers, by rw [hmm]; exact hs.mem, by rw [hmm]; exact he', hs.went, hs.fix, by rw [hmm]; exact hs.n⟩
              have hkm : keepR (aftT ops o) (RS.map (·.1)) = (RS.filter fun x => !memN x.1.1 (aftT ops o)).map (·.1) := by rw [keepR_eq, List.filter_map]; rfl
              simp only [wpOp, ho]
              rcases hcase with ⟨hw, h1⟩ | ⟨hw, h1⟩
              · rw [if_pos hw]
                refine .inl (step_masked (hs := heldOf (aftT ops o) (RS.map (·.1))) (K := fun s2 => againR (aftT ops o) s2.mem (RS.map (·.1)) ∧ vT std P (planD P ops fuel (listed.setIfInBounds j true)) (keepR (aftT ops o) (RS.map (·.1))) s2 K) (heldOf_nodup _) hs' ?_ fun s2 a2 w2 β2 I2 F2 hK hs2 hI hkeep hF2 hβ2 hN2 => ?_)
                · refine vop_mono (fun s3 h3 => ?_) h1
                  split at h3
                  · rename_i m hu; rw [hu]; exact chkR_ok h3
                  · exact h3.elim
                rw [hkm] at hK
                have hP2 : ∀ x ∈ RS.filter fun x => !memN x.1.1 (aftT ops o), Pend x β2 I2 F2 w2 s2.mem := by
                  intro x hx
                  obtain ⟨hx1, hx2⟩ := List.mem_filter.1 hx
                  have hk' : x.1.1 ∉ aftT ops o := fun hin => by rw [memN_iff.2 hin] at hx2; cases hx2
                  have hxm : x.1 ∈ RS.map (·.1) := List.mem_map.2 ⟨x, hx1, rfl⟩
                  refine (hP x hx1).step (fun h hh => hβ2 h (by rw [hmm]; exact hh)) (by rw [← hmm]; exact hN2) hI (fun e => againR_mem hK.1 _ _ hxm hk' e) fun e => ?_
                  have hin : x.1.2.h ∈ heldOf (aftT ops o) (RS.map (·.1)) := heldOf_mem.2 ⟨x.1.1, x.1.2, hxm, hk', e, rfl⟩
                  exact ⟨fun b hb => hkeep b (hb.imp id fun hF => ⟨_, hin, hF⟩), fun b hF => hF2 _ hin b hF⟩
                refine ⟨Sof (RS.filter fun x => !memN x.1.1 (aftT ops o)) I2 w2, fun k hk w3 h3 => ⟨fun b hb => ?_, fun x hx hxk => ?_⟩, fun k => ⟨fun _ _ => rfl, fun x hx _ => (hP2 x hx).now hs2.mem⟩, ih _ _ _ _ _ β2 I2 F2 (hset j (List.mem_cons_self ..)) hK.2 hs2 hP2⟩
                · rw [h3.1 b (hI b hb)]
                  exact hkeep b (.inl hb)
                · have hk' : x.1.1 ∉ aftT ops o := fun hin => hk (mem_aftT ho (hxk ▸ hin))
                  exact h3.2 x (List.mem_filter.2 ⟨hx, by cases hb : memN x.1.1 (aftT ops o) with | true => exact (hk' (memN_iff.1 hb)).elim | false => rfl⟩) hxk
              · rw [if_neg (by simp [hw])]
                rw [hkm] at h1
                refine ⟨Sof (RS.filter fun x => !memN x.1.1 (aftT ops o)) I w, fun k hk w3 h3 => ⟨h3.1, fun x hx hxk => ?_⟩, fun k => ⟨fun _ _ => rfl, fun x hx _ => (hP x (List.mem_filter.1 hx).1).now hs.mem⟩,
                  ih _ _ _ _ _ β I F (hset j (List.mem_cons_self ..)) h1 (hs'.put undef_rel) fun x hx => by rw [put_mem, hmm]; exact hP x (List.mem_filter.1 hx).1⟩
                have hk' : x.1.1 ∉ aftT ops o := fun hin => hk (mem_aftT ho (hxk ▸ hin))
                exact h3.2 x (List.mem_filter.2 ⟨hx, by cases hb : memN x.1.1 (aftT ops o) with | true => exact (hk' (memN_iff.1 hb)).elim | false => rfl⟩) hxk
            · exact ihl h.2 (fun j hj => hset j (List.mem_cons_of_mem _ hj)) j hj
          · exact h.elim

theorem SatW.drawn {fr : Fr} {s : St O} {a : Act} {w : World} {β : Nat → HI} {I : Nat → Prop} {F : Nat → Nat → Prop} (h : SatW fr s a w β I F) (n : Nat) : SatW fr s a { w with drawn := n } β I F where
  defers := h.defers
  mem := ⟨fun k c hc => CSat.mono (w := w) (w' := { w with drawn := n }) (by
      rcases Nat.lt_or_ge k s.mem.length with h' | h'
      · exact h'
      · rw [List.getElem?_eq_none h'] at hc; cases hc) (fun _ _ => rfl) (Nat.le_refl _) (fun _ h => h) (fun _ _ => rfl) (h.mem.chunk k c hc), h.mem.apart, h.mem.none, h.mem.old, h.mem.wh.1, h.mem.wh.2.mono (fun _ h => h) fun _ _ => rfl⟩
  env := RelL.mono (w := w) (w' := { w with drawn := n }) (fun _ _ => rfl) (Nat.le_refl _) (fun _ h => h) (fun _ _ => rfl) h.env
  went := h.went.trans ⟨rfl, rfl, rfl, Nat.le_refl _, fun _ _ _ => rfl, fun _ _ => rfl, fun _ h => h, fun _ h => .inl h, fun _ h => .inl h⟩
  fix := h.fix
  n := h.n

theorem vT_region {P : Program} {ops : Array Oper} {id : Nat} {fr : Fr} {K : St O → Prop} {Q : Exit → Act → World → Prop} {s : St O} {a : Act} {w : World} (hm : P.follows .mixedOrders = true)
    (hns : Region.noSelect ops = true) (h : vT std P (planD P ops ops.size (Array.replicate ops.size false)) [] s K) (hs : Sat fr s a w) (hQ : ∀ s a w, K s → Sat fr s a w → Q .normal a w)
    (hQp : ∀ c a w, ¬ Q (.panic c) a w) : (Code.region id ops true).wp P Q a w := by
  obtain ⟨β, I, F, hs⟩ := hs.open_
  exact wp_region_any hm (wpAnyG.any _ _ _ _ _ (vT_sound hns hQ hQp _ _ [] _ _ _ _ _ _ Closed.none h (hs.drawn _) fun _ h => by cases h))

end Go.V
