/-
  Code: the conditions suffice. Loops; one state in another's place; functions.
-/
import Derived.Test.YtiaceoomiflgcaaVcgP
namespace Go.V
variable {O : Type} [Objs O]

/-- In every world in which s holds, s' holds, too. -/
def Ent (n : Nat) (s s' : St O) : Prop := ∀ (fr : Fr) (a : Act) (w : World), fr.n = n → Sat fr s a w → Sat fr s' a w

theorem Ent.refl (n : Nat) (s : St O) : Ent n s s := fun _ _ _ _ h => h
theorem Ent.trans {n : Nat} {s s' s'' : St O} (h : Ent n s s') (k : Ent n s' s'') : Ent n s s'' := fun fr a w hn hs => k fr a w hn (h fr a w hn hs)

theorem Post.mono {fr : Fr} {K K' : Ex → St O → Prop} (h : ∀ e s, K e s → K' e s) {e : Exit} {a : Act} {w : World} : Post fr K e a w → Post fr K' e a w
  | ⟨ex, s, he, hk, hs⟩ => ⟨ex, s, he, h ex s hk, hs⟩

theorem SemC.mono {P : Program} {n : Nat} {c : Code} {s : St O} {K K' : Ex → St O → Prop} (h : SemC P n c s K) (hk : ∀ e s, K e s → K' e s) : SemC P n c s K' :=
  fun fr a w hn hs => wp_mono (h fr a w hn hs) fun _ _ _ => Post.mono hk

theorem SemC.ent {P : Program} {n : Nat} {c : Code} {s s' : St O} {K : Ex → St O → Prop} (he : Ent n s s') (h : SemC P n c s' K) : SemC P n c s K :=
  fun fr a w hn hs => h fr a w hn (he fr a w hn hs)

omit [Objs O] in
theorem strip_compC {P : Program} : ∀ c : Code, strip (compC P c) = compC P c
  | .skip | .region _ _ false | .exit _ | .ret | .label _ | .goto _ | .rangeFunc .. | .refuse _ => rfl
  | .region _ ops true => by
    simp only [compC]
    cases Region.noSelect ops <;> rfl
  | .seq a b => by simp only [compC, strip, strip_compC a, strip_compC b]
  | .cond c a b => by simp only [compC, strip, strip_compC a, strip_compC b]
  | .block id c => by simp only [compC, strip, strip_compC c]
  | .loop c => by simp only [compC, strip, strip_compC c]
  | .scope c => by simp only [compC, strip, strip_compC c]

theorem vC_sound' {P : Program} (hm : P.follows .mixedOrders = true) (n : Nat) : ∀ (c : Code) (ic : IC) (s : St O) (K : Ex → St O → Prop), compC P c = strip ic → vC std P n ic s K → SemC P n c s K
  | c, .cut b, s, K, e, h => CutVC.h h c e
  | .skip, .skip, s, K, _, h => fun fr a w _ hs => wp_skip ⟨.normal, s, rfl, h, hs⟩
  | .region id ops false, .reg l, s, K, e, h => fun fr a w _ hs => by
    simp only [compC, strip, IC.reg.injEq] at e
    subst e
    exact vL_region h hs fun s a w hk hs => ⟨.normal, s, rfl, hk, hs⟩
  | .region id ops true, ic, s, K, e, h => fun fr a w hn hs => by
    simp only [compC] at e
    cases hns : Region.noSelect ops with
    | true =>
      rw [hns] at e
      cases ic with
      | drw t =>
        simp only [strip, IC.drw.injEq] at e
        subst e
        exact vT_region hm hns h hs (fun s a w hk hs => ⟨.normal, s, rfl, hk, hs⟩) (by rintro c a w ⟨ex, s, he, _⟩; cases ex <;> cases he)
      | cut b => exact CutVC.h h (.region id ops true) (by simp only [compC, hns]; exact e) fr a w hn hs
      | _ => simp [strip] at e
    | false =>
      rw [hns] at e
      cases ic with
      | bad => exact h.elim
      | cut b => exact CutVC.h h (.region id ops true) (by simp only [compC, hns]; exact e) fr a w hn hs
      | _ => simp [strip] at e
  | .seq x y, .seq a b, s, K, e, h => fun fr ac w hn hs => by
    simp only [compC, strip, IC.seq.injEq] at e
    refine wp_seq (wp_mono (vC_sound' hm n x a s _ e.1 h fr ac w hn hs) ?_)
    rintro ee a' w' ⟨ex, s', rfl, hk, hs'⟩
    cases ex with
    | normal => exact vC_sound' hm n y b s' K e.2 hk fr a' w' hn hs'
    | exit i => exact ⟨.exit i, s', rfl, hk, hs'⟩
    | goto l => exact ⟨.goto l, s', rfl, hk, hs'⟩
    | ret => exact ⟨.ret, s', rfl, hk, hs'⟩
  | .cond c x y, .cond c' a b, s, K, e, h => fun fr ac w hn hs => by
    simp only [compC, strip, IC.cond.injEq] at e
    obtain ⟨rfl, e1, e2⟩ := e
    simp only [vC] at h
    split at h
    · rename_i t ht
      have hc : ac.eval c = .bool t := by
        obtain ⟨β, I, F, hs'⟩ := hs.open_
        have := ev_rel hs'.env c
        rw [ht] at this
        simpa only [Rel, DRel] using this
      cases t with
      | true => exact wp_cond_true hc (vC_sound' hm n x a s K e1 h fr ac w hn hs)
      | false => exact wp_cond_false hc (vC_sound' hm n y b s K e2 h fr ac w hn hs)
    · exact h.elim
  | .block id c, .block id' b, s, K, e, h => fun fr a w hn hs => by
    simp only [compC, strip, IC.block.injEq] at e
    obtain ⟨rfl, e⟩ := e
    refine wp_block (wp_mono (vC_sound' hm n c b s _ e h fr a w hn hs) ?_)
    rintro ee a' w' ⟨ex, s', rfl, hk, hs'⟩
    cases ex with
    | normal => exact ⟨.normal, s', rfl, hk, hs'⟩
    | exit i =>
      simp only [Ex.toExit, Exit.inBlock]
      simp only at hk
      split at hk
      · rename_i hb
        rw [if_pos (Nat.eq_of_beq_eq_true hb)]
        exact ⟨.normal, s', rfl, hk, hs'⟩
      · rename_i hb
        rw [if_neg (Nat.ne_of_beq_eq_false hb)]
        exact ⟨.exit i, s', rfl, hk, hs'⟩
    | goto l => exact ⟨.goto l, s', rfl, hk, hs'⟩
    | ret => exact ⟨.ret, s', rfl, hk, hs'⟩
  | .loop c, .loop b, s, K, e, h => LoopVC.h h c (by simpa only [compC, strip, IC.loop.injEq] using e)
  | .exit id, .exit id', s, K, e, h => fun fr a w _ hs => by
    simp only [compC, strip, IC.exit.injEq] at e
    subst e
    exact wp_exit ⟨.exit id, s, rfl, h, hs⟩
  | .ret, .ret, s, K, _, h => fun fr a w _ hs => wp_ret ⟨.ret, s, rfl, h, hs⟩
  | .label l, .label l', s, K, _, h => fun fr a w _ hs => wp_label ⟨.normal, s, rfl, h, hs⟩
  | .goto l, .goto l', s, K, e, h => fun fr a w _ hs => by
    simp only [compC, strip, IC.goto.injEq] at e
    subst e
    exact wp_goto ⟨.goto l, s, rfl, h, hs⟩
  | .scope c, .scope b, s, K, e, h => ScopeVC.h h c (by simpa only [compC, strip, IC.scope.injEq] using e)
  | _, .bad, _, _, _, h => h.elim
  | .rangeFunc .., ic, s, K, e, h => by
    cases ic with
    | bad => exact h.elim
    | cut b => exact CutVC.h h _ e
    | _ => simp [compC, strip] at e
  | .refuse x, ic, s, K, e, h => by
    cases ic with
    | bad => exact h.elim
    | cut b => exact CutVC.h h _ e
    | _ => simp [compC, strip] at e

theorem vC_sound {P : Program} (hm : P.follows .mixedOrders = true) (n : Nat) (c : Code) (s : St O) (K : Ex → St O → Prop) (h : vC std P n (compC P c) s K) : SemC P n c s K :=
  vC_sound' hm n c (compC P c) s K (strip_compC c).symm h

/-- A loop: what holds at its head, by an index; a measure that every round lowers. -/
theorem loop_rule {P : Program} (hm : P.follows .mixedOrders = true) {n : Nat} {b : IC} {s : St O} {K : Ex → St O → Prop} {ι : Type} (Inv : ι → St O) (μ : ι → Nat) (i0 : ι) (h0 : Ent n s (Inv i0))
    (round : ∀ i, vC std P n b (Inv i) fun e s' => (match e with
      | .normal => ∃ j, μ j < μ i ∧ Ent n s' (Inv j)
      | .exit l => K (.exit l) s'
      | .goto l => K (.goto l) s'
      | .ret => K .ret s')) : LoopVC P n b s K := by
  refine ⟨fun c hc fr a w hn hs bf k cs => ?_⟩
  have key : ∀ m i a w, μ i = m → Sat fr (Inv i) a w → ∃ e a' w', Post fr K e a' w' ∧ Arrives P (lone (bf.at a (.code c :: .inLoop c :: k)) cs w) bf k cs e a' w' := by
    intro m
    induction m using Nat.strongRecOn with
    | _ m ih =>
      intro i a w hmu hsat
      obtain ⟨e, a₁, w₁, ⟨ex, s1, rfl, hk, hs1⟩, harr⟩ := vC_sound' hm n c b (Inv i) _ hc (round i) fr a w hn hsat bf (.inLoop c :: k) cs
      cases ex with
      | normal =>
        obtain ⟨j, hlt, hent⟩ := hk
        obtain ⟨e₂, a₂, w₂, hq₂, harr₂⟩ := ih (μ j) (hmu ▸ hlt) j a₁ w₁ rfl (hent fr _ _ hn hs1)
        exact ⟨e₂, a₂, w₂, hq₂, .of_steps (Steps.trans harr (.one step_inLoop)) harr₂⟩
      | exit id => exact ⟨_, a₁, w₁, ⟨.exit id, s1, rfl, hk, hs1⟩, .pass (x := .inLoop c) rfl (fun _ _ => .inl (by simp [Ex.toExit])) harr⟩
      | goto l => exact ⟨_, a₁, w₁, ⟨.goto l, s1, rfl, hk, hs1⟩, .pass (x := .inLoop c) rfl (fun _ _ => .inl (by simp [Ex.toExit])) harr⟩
      | ret => exact ⟨_, a₁, w₁, ⟨.ret, s1, rfl, hk, hs1⟩, .pass (x := .inLoop c) rfl (fun _ _ => .inl (by simp [Ex.toExit])) harr⟩
  obtain ⟨e, a', w', hq, harr⟩ := key _ i0 a w rfl (h0 fr a w hn hs)
  exact ⟨e, a', w', hq, .of_steps (.one step_loop) harr⟩

/-! ### Handles under other names -/
mutual
def renV (σ : List Nat) : SV → SV
  | .ptr h o => (match lget σ h with | some g => .ptr g o | none => .pseq 0 0 (fun _ _ => .nilp) 0 0)
  | .pat h o i n sz f => (match lget σ h with | some g => .pat g o i n sz f | none => .pseq 0 0 (fun _ _ => .nilp) 0 0)
  | .vec h => (match lget σ h with | some g => .vec g | none => .pseq 0 0 (fun _ _ => .nilp) 0 0)
  | .win h lo n c sz => (match lget σ h with | some g => .win g lo n c sz | none => .pseq 0 0 (fun _ _ => .nilp) 0 0)
  | .gp g => .gp g
  | .mp h => (match lget σ h with | some g => .mp g | none => .pseq 0 0 (fun _ _ => .nilp) 0 0)
  | .agg l => .agg (renL σ l)
  | .tup l => .tup (renL σ l)
  | .fn f l => .fn f (renL σ l)
  | .bfn f l => .bfn f (renL σ l)
  | .mfn m v => .mfn m (renV σ v)
  | .ifc t v => .ifc t (renV σ v)
  | v => v
def renL (σ : List Nat) : List SV → List SV
  | [] => []
  | v :: r => renV σ v :: renL σ r
end

def renS (σ : List Nat) : List Seg → List Seg
  | [] => []
  | .one v :: r => .one (renV σ v) :: renS σ r
  | .arr n sz at_ :: r => .arr n sz (fun i f => renV σ (at_ i f)) :: renS σ r

def renC (σ : List Nat) : Chunk O → Chunk O
  | .blk ss => .blk (renS σ ss)
  | .vec n sz at_ => .vec n sz fun i f => renV σ (at_ i f)
  | .mset n has => .mset n has
  | c => c

/-- Names: new handle j stands for old handle σ j. -/
structure Names (σ : List Nat) (β : Nat → HI) (N : Nat) (β' : Nat → HI) (N' : Nat) : Prop where
  len : N' = σ.length
  lt : ∀ j h, lget σ j = some h → h < N
  eq : ∀ j h, lget σ j = some h → β' j = β h

section
variable {σ : List Nat} {β β' : Nat → HI} {N N' : Nat} {I : Nat → Prop} {w : World}

theorem Names.get (hσ : Names σ β N β' N') {j : Nat} (hj : j < N') : ∃ h, lget σ j = some h ∧ h < N ∧ β' j = β h := by
  have : j < σ.length := hσ.len ▸ hj
  have e : lget σ j = some σ[j] := by rw [lget_eq]; simp [this]
  exact ⟨_, e, hσ.lt j _ e, hσ.eq j _ e⟩

theorem Names.inv (hσ : Names σ β N β' N') {j h : Nat} (e : lget σ j = some h) : j < N' := by
  rw [lget_eq] at e
  rw [hσ.len]
  rcases Nat.lt_or_ge j σ.length with h' | h'
  · exact h'
  · rw [List.getElem?_eq_none h'] at e; cases e

theorem no_rel {v : Value} : ¬ Rel β N I w (.pseq 0 0 (fun _ _ => .nilp) 0 0) v := by
  simp [Rel]

mutual
theorem ren_rel (hσ : Names σ β N β' N') : ∀ {v x}, Rel β N I w (renV σ v) x ↔ Rel β' N' I w v x
  | .ptr h o, x => by
    simp only [renV]
    cases e : lget σ h with
    | some g => simp only [Rel, hσ.eq _ _ e, hσ.lt _ _ e, hσ.inv e, true_and]
    | none =>
      refine ⟨fun hn => (no_rel hn).elim, fun hr => ?_⟩
      simp only [Rel] at hr
      obtain ⟨g, hg, _⟩ := hσ.get hr.1
      rw [e] at hg; cases hg
  | .pat h o i n sz f, x => by
    simp only [renV]
    cases e : lget σ h with
    | some g => simp only [Rel, hσ.eq _ _ e, hσ.lt _ _ e, hσ.inv e, true_and]
    | none =>
      refine ⟨fun hn => (no_rel hn).elim, fun hr => ?_⟩
      simp only [Rel] at hr
      obtain ⟨g, hg, _⟩ := hσ.get hr.1.1
      rw [e] at hg; cases hg
  | .vec h, x => by
    simp only [renV]
    cases e : lget σ h with
    | some g => simp only [Rel, hσ.eq _ _ e, hσ.lt _ _ e, hσ.inv e, true_and]
    | none =>
      refine ⟨fun hn => (no_rel hn).elim, fun hr => ?_⟩
      simp only [Rel] at hr
      obtain ⟨g, hg, _⟩ := hσ.get hr.1
      rw [e] at hg; cases hg
  | .win h lo n c sz, x => by
    simp only [renV]
    cases e : lget σ h with
    | some g => simp only [Rel, hσ.eq _ _ e, hσ.lt _ _ e, hσ.inv e, true_and]
    | none =>
      refine ⟨fun hn => (no_rel hn).elim, fun hr => ?_⟩
      simp only [Rel] at hr
      obtain ⟨g, hg, _⟩ := hσ.get hr.1
      rw [e] at hg; cases hg
  | .mp h, x => by
    simp only [renV]
    cases e : lget σ h with
    | some g => simp only [Rel, hσ.eq _ _ e, hσ.lt _ _ e, hσ.inv e, true_and]
    | none =>
      refine ⟨fun hn => (no_rel hn).elim, fun hr => ?_⟩
      simp only [Rel] at hr
      obtain ⟨g, hg, _⟩ := hσ.get hr.1
      rw [e] at hg; cases hg
  | .agg l, x => by simp only [renV, Rel, ren_relL hσ]
  | .tup l, x => by simp only [renV, Rel, ren_relL hσ]
  | .fn f l, x => by simp only [renV, Rel, ren_relL hσ]
  | .bfn f l, x => by simp only [renV, Rel, ren_relL hσ]
  | .mfn m v, x => by simp only [renV, Rel, ren_rel hσ]
  | .ifc t v, x => by simp only [renV, Rel, ren_rel hσ]
  | .junk, x => by simp only [renV, Rel]
  | .gp g, x => by simp only [renV, Rel]
  | .dv d, x => by simp only [renV, Rel]
  | .pseq .., x => by simp only [renV, Rel]
theorem ren_relL (hσ : Names σ β N β' N') : ∀ {l xs}, RelL β N I w (renL σ l) xs ↔ RelL β' N' I w l xs
  | [], xs => by simp only [renL, RelL]
  | v :: r, xs => by simp only [renL, RelL, ren_rel hσ, ren_relL hσ]
end

theorem ren_segs (hσ : Names σ β N β' N') {cs : Array Value} : ∀ {ss off}, SegsSat β N I w cs off (renS σ ss) ↔ SegsSat β' N' I w cs off ss
  | [], off => by simp only [renS, SegsSat]
  | .one v :: r, off => by simp only [renS, SegsSat, ren_rel hσ, ren_segs hσ]
  | .arr n sz at_ :: r, off => by simp only [renS, SegsSat, ren_rel hσ, ren_segs hσ]

theorem ren_chunk (hσ : Names σ β N β' N') {j h : Nat} (e : lget σ j = some h) {F : Nat → Prop} {c : Chunk O} : CSat β N I w h F (renC σ c) ↔ CSat β' N' I w j F c := by
  cases c with
  | gone => simp only [renC, CSat]
  | blk ss => simp only [renC, CSat, hσ.eq _ _ e, ren_segs hσ]
  | vec n sz at_ => simp only [renC, CSat, hσ.eq _ _ e, ren_rel hσ]
  | mset n has => simp only [renC, CSat, hσ.eq _ _ e]
  | obj o => simp only [renC, CSat, hσ.eq _ _ e]
end

end Go.V
