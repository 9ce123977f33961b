/-
  The concrete executor tells the truth: code, loops, scopes, calls.
-/
import Derived.Test.YtiaceoomiflgcaaGreatVceB
import Derived.LoopN
namespace Go.V
variable {O : Type} [Objs O]

omit [Objs O] in
theorem vG_mono {g : Option (Option Nat × Bool)} {s : St O} {r q r' q' : St O → Prop} (h1 : ∀ s, r s → r' s) (h2 : ∀ s, q s → q' s) : vG g s r q → vG g s r' q' := by
  unfold vG
  split
  · exact h1 _
  · split
    · rename_i b _ _ _
      cases b
      · exact bc_mono (h2 _) (h1 _)
      · exact bc_mono (h1 _) (h2 _)
    · exact h2 _
    · exact id
  · exact id

theorem vL_mono {A : Ar} {P : Program} {K K' : St O → Prop} (hk : ∀ s, K s → K' s) : ∀ {l : List Op1} {s : St O}, vL A P l s K → vL A P l s K'
  | [], _ => hk _
  | _ :: _, _ => vG_mono (fun _ => vop_mono fun _ => vL_mono hk) fun _ => vL_mono hk

theorem vT_mono {A : Ar} {P : Program} {K K' : St O → Prop} (hk : ∀ s, K s → K' s) : ∀ {t : DT} {R : List (Nat × Rd)} {s : St O}, vT A P t R s K → vT A P t R s K'
  | .done, _, _ => hk _
  | .take _ _ _, _, _ => vG_mono (fun _ => vop_mono fun _ => vT_mono hk) fun _ => vT_mono hk
  | .alt i aft o rest more, R, s => by
    have one : ∀ s : St O, vG o.g s (fun s => vop A P o.d o.i ⟨s.env, maskM (heldOf aft R) s.mem⟩ fun s' => (match unmaskM s.mem (heldOf aft R) s'.mem with
      | some m => chkR aft m R fun _ => vT A P rest (keepR aft R) ⟨s'.env, m⟩ K
      | none => False)) (fun s => vT A P rest (keepR aft R) (s.put o.d (.tup [])) K) →
      vG o.g s (fun s => vop A P o.d o.i ⟨s.env, maskM (heldOf aft R) s.mem⟩ fun s' => (match unmaskM s.mem (heldOf aft R) s'.mem with
      | some m => chkR aft m R fun _ => vT A P rest (keepR aft R) ⟨s'.env, m⟩ K'
      | none => False)) (fun s => vT A P rest (keepR aft R) (s.put o.d (.tup [])) K') := by
      intro s
      refine vG_mono (fun s => vop_mono fun s' => ?_) fun _ => vT_mono hk
      split
      · exact chkR_mono (vT_mono hk)
      · exact id
    simp only [vT]
    cases more with
    | none => exact one s
    | _ => exact fun h => ⟨one s h.1, vT_mono hk h.2⟩
  | .none, _, _ => id
  | .bad, _, _ => id

theorem vC_mono {A : Ar} {P : Program} {n : Nat} : ∀ {ic : IC} {s : St O} {K K' : Ex → St O → Prop}, (∀ e s, K e s → K' e s) → vC A P n ic s K → vC A P n ic s K'
  | .skip, _, _, _, hk => hk _ _
  | .reg _, _, _, _, hk => vL_mono (hk _)
  | .drw _, _, _, _, hk => vT_mono (hk _)
  | .seq a b, s, K, K', hk => by
    simp only [vC]
    refine vC_mono fun e s' => ?_
    cases e with
    | normal => exact vC_mono hk
    | _ => exact hk _ _
  | .cond c a b, s, K, K', hk => by
    simp only [vC]
    split
    · exact bc_mono (vC_mono hk) (vC_mono hk)
    · exact id
  | .block id c, s, K, K', hk => by
    simp only [vC]
    refine vC_mono fun e s' => ?_
    cases e with
    | exit i => dsimp only; split <;> exact hk _ _
    | _ => exact hk _ _
  | .loop _, _, _, _, hk => fun h => ⟨fun c hc => (h.h c hc).mono hk⟩
  | .exit _, _, _, _, hk => hk _ _
  | .ret, _, _, _, hk => hk _ _
  | .label _, _, _, _, hk => hk _ _
  | .goto _, _, _, _, hk => hk _ _
  | .scope _, _, _, _, hk => fun h => ⟨fun c hc => (h.h c hc).mono hk⟩
  | .cut _, _, _, _, hk => fun h => ⟨fun c hc => (h.h c hc).mono hk⟩
  | .bad, _, _, _, _ => id

omit [Objs O] in
theorem gE_ok {g : Option (Option Nat × Bool)} {s : St O} {run skip : St O → Bool} {run' skip' : St O → Prop} (h : gE g s run skip = true) (h1 : ∀ s, run s = true → run' s) (h2 : ∀ s, skip s = true → skip' s) : vG g s run' skip' := by
  unfold gE at h
  unfold vG
  split at h
  · exact h1 _ h
  · split at h
    · rename_i e
      simp only [e, bc]
      split at h
      · exact h1 _ h
      · exact h2 _ h
    · rename_i e
      simp only [e, bc]
      split at h
      · exact h2 _ h
      · exact h1 _ h
    · rename_i e
      simp only [e]
      exact h2 _ h
    · cases h
  · cases h

theorem lE_ok {P : Program} {T : Tb O} (hT : T.OK P) {call : CallT O} (hcall : CallsE P call) {K : Kt O} : ∀ {l : List Op1} {s : St O}, lE T call l s K = true → vL std P l s fun s' => K s' = true
  | [], _, h => h
  | _ :: _, _, h => gE_ok h (fun _ h => vop_mono (fun _ h => lE_ok hT hcall h) (opE_ok hT hcall h)) fun _ h => lE_ok hT hcall h

theorem dvB_ok {a b : DV} (h : dvB a b = true) : a = b := by
  unfold dvB at h
  split at h
  · rw [Bool.and_eq_true] at h
    rw [ikEq_eq h.1, of_decide_eq_true h.2]
  all_goals first | rfl | cases h

theorem all2_eq {p : SV → SV → Bool} (hp : ∀ a b, p a b = true → a = b) : ∀ {l r : List SV}, all2 p l r = true → l = r
  | [], [], _ => rfl
  | a :: l, b :: r, h => by
    simp only [all2, Bool.and_eq_true] at h
    rw [hp _ _ h.1, all2_eq hp h.2]
  | [], _ :: _, h => by simp [all2] at h
  | _ :: _, [], h => by simp [all2] at h

theorem svB_ok : ∀ {n : Nat} {a b : SV}, svB n a b = true → a = b
  | 0, _, _, h => by cases h
  | n + 1, a, b, h => by
    unfold svB at h
    split at h
    · rw [dvB_ok h]
    · rw [Bool.and_eq_true] at h
      rw [beq_ok h.1, beq_ok h.2]
    · simp only [Bool.and_eq_true] at h
      obtain ⟨h1, h2, h3, h4, h5, h6⟩ := h
      rw [beq_ok h1, beq_ok h2, beq_ok h3, beq_ok h4, beq_ok h5, beq_ok h6]
    · rw [beq_ok h]
    · rw [beq_ok h]
    · rw [beq_ok h]
    · rw [all2_eq (fun a b h => svB_ok h) h]
    · rw [all2_eq (fun a b h => svB_ok h) h]
    · rw [Bool.and_eq_true] at h
      rw [beq_ok h.1, all2_eq (fun a b h => svB_ok h) h.2]
    · rw [Bool.and_eq_true] at h
      rw [beq_ok h.1, svB_ok h.2]
    · cases h

omit [Objs O] in
theorem chkE_again {aft : List Nat} {mem : List (Chunk O)} : ∀ {R : List (Nat × Rd)}, chkE aft mem R = true → againR aft mem R
  | [], _ => trivial
  | (k, r) :: R, h => by
    simp only [chkE] at h
    simp only [againR]
    split at h
    · rename_i e; simp only [e]; exact chkE_again h
    · rename_i e
      simp only [e]
      split at h
      · rename_i c hc
        split at h
        · rename_i v hv
          rw [Bool.and_eq_true] at h
          simp only [hc]
          exact ⟨by rw [hv, svB_ok h.1], chkE_again h.2⟩
        · cases h
      · cases h

omit [Objs O] in
theorem chkE_ok {aft : List Nat} {mem : List (Chunk O)} {R : List (Nat × Rd)} {q : Unit → Prop} (h : chkE aft mem R = true) (k : q ()) : chkR aft mem R q := by
  unfold chkR
  split
  · exact k
  · exact ⟨chkE_again h, k⟩

theorem tE_ok {P : Program} {T : Tb O} (hT : T.OK P) {call : CallT O} (hcall : CallsE P call) {K : Kt O} : ∀ {t : DT} {R : List (Nat × Rd)} {s : St O}, tE T call t R s K = true → vT std P t R s fun s' => K s' = true
  | .done, _, _, h => h
  | .take _ _ _, _, _, h => gE_ok h (fun _ h => vop_mono (fun _ h => tE_ok hT hcall h) (opE_ok hT hcall h)) fun _ h => tE_ok hT hcall h
  | .alt i aft o rest more, R, s, h => by
    have one : ∀ s : St O, gE o.g s (fun s => opE T call o.d o.i ⟨s.env, maskM (heldOf aft R) s.mem⟩ fun s' => (match unmaskM s.mem (heldOf aft R) s'.mem with
      | some m => chkE aft m R && tE T call rest (keepR aft R) ⟨s'.env, m⟩ K
      | none => false)) (fun s => tE T call rest (keepR aft R) (s.put o.d (.tup [])) K) = true →
      vG o.g s (fun s => vop std P o.d o.i ⟨s.env, maskM (heldOf aft R) s.mem⟩ fun s' => (match unmaskM s.mem (heldOf aft R) s'.mem with
      | some m => chkR aft m R fun _ => vT std P rest (keepR aft R) ⟨s'.env, m⟩ fun s' => K s' = true
      | none => False)) (fun s => vT std P rest (keepR aft R) (s.put o.d (.tup [])) fun s' => K s' = true) := by
      intro s h
      refine gE_ok h (fun s h => ?_) fun _ h => tE_ok hT hcall h
      refine vop_mono (fun s' => ?_) (opE_ok hT hcall h)
      split
      · exact fun h => by
          rw [Bool.and_eq_true] at h
          exact chkE_ok h.1 (tE_ok hT hcall h.2)
      · exact fun h => by cases h
    simp only [tE] at h
    simp only [vT]
    cases more with
    | none => exact one s h
    | _ =>
      simp only [andE, Bool.and_eq_true] at h
      exact ⟨one s h.1, tE_ok hT hcall h.2⟩
  | .none, _, _, _ => trivial
  | .bad, _, _, h => by cases h

/-- What a scope's code leads to: at its labels it goes on. -/
def scopeN (P : Program) (c : Code) (Q : Exit → Act → World → Prop) : Nat → Exit → Act → World → Prop
  | 0, e, a, w => (∀ l, e = .goto l → findLabel c l = none) ∧ Q e a w
  | n + 1, e, a, w => ((∀ l, e = .goto l → findLabel c l = none) ∧ Q e a w) ∨ ∃ l rest, e = .goto l ∧ findLabel c l = some rest ∧ rest.wp P (scopeN P c Q n) a w

theorem scopeN_out {P : Program} {c : Code} {Q : Exit → Act → World → Prop} {n : Nat} {e : Exit} {a : Act} {w : World} (h1 : ∀ l, e = .goto l → findLabel c l = none) (h2 : Q e a w) : scopeN P c Q n e a w := by
  cases n with
  | zero => exact ⟨h1, h2⟩
  | succ n => exact .inl ⟨h1, h2⟩

theorem wp_scopeN {P : Program} {c : Code} {Q : Exit → Act → World → Prop} (n : Nat) {a : Act} {w : World} (h : c.wp P (scopeN P c Q n) a w) : (Code.scope c).wp P Q a w := by
  intro b k cs
  have key : ∀ n e a₁ w₁ st, scopeN P c Q n e a₁ w₁ → Arrives P st b (.inScope c :: k) cs e a₁ w₁ → ∃ e a' w', Q e a' w' ∧ Arrives P st b k cs e a' w' := by
    intro n
    induction n with
    | zero =>
      intro e a₁ w₁ st hq harr
      obtain ⟨hno, hq⟩ := hq
      cases e with
      | normal => exact ⟨.normal, a₁, w₁, hq, Steps.trans harr (.one step_inScope)⟩
      | exit id => exact ⟨.exit id, a₁, w₁, hq, fun k' hk => harr k' (by simp [exitTo, hk])⟩
      | goto l => exact ⟨.goto l, a₁, w₁, hq, fun k' hk => harr k' (by simp [gotoIn, hno l rfl, hk])⟩
      | ret => exact ⟨_, a₁, w₁, hq, harr⟩
      | panic ch => exact ⟨_, a₁, w₁, hq, harr⟩
      | outgrown => exact ⟨_, a₁, w₁, hq, harr⟩
    | succ n ih =>
      intro e a₁ w₁ st hq harr
      rcases hq with ⟨hno, hq⟩ | ⟨l, rest, rfl, hf, hr⟩
      · cases e with
        | normal => exact ⟨.normal, a₁, w₁, hq, Steps.trans harr (.one step_inScope)⟩
        | exit id => exact ⟨.exit id, a₁, w₁, hq, fun k' hk => harr k' (by simp [exitTo, hk])⟩
        | goto l => exact ⟨.goto l, a₁, w₁, hq, fun k' hk => harr k' (by simp [gotoIn, hno l rfl, hk])⟩
        | ret => exact ⟨_, a₁, w₁, hq, harr⟩
        | panic ch => exact ⟨_, a₁, w₁, hq, harr⟩
        | outgrown => exact ⟨_, a₁, w₁, hq, harr⟩
      · have hg : gotoIn l (.inScope c :: k) = some (.code rest :: .inScope c :: k) := by simp [gotoIn, hf]
        obtain ⟨e₂, a₂, w₂, hq₂, harr₂⟩ := hr b (.inScope c :: k) cs
        obtain ⟨e₃, a₃, w₃, hq₃, harr₃⟩ := ih e₂ a₂ w₂ _ hq₂ harr₂
        exact ⟨e₃, a₃, w₃, hq₃, .of_steps (harr _ hg) harr₃⟩
  obtain ⟨e, a₁, w₁, hq, harr⟩ := h b (.inScope c :: k) cs
  obtain ⟨e₂, a₂, w₂, hq₂, harr₂⟩ := key n e a₁ w₁ _ hq harr
  exact ⟨e₂, a₂, w₂, hq₂, .of_steps (.one step_scope) harr₂⟩

/-- Labels in short code are those of the code. -/
theorem findI_ok {P : Program} {l : Nat} : ∀ (b : IC) (c : Code), compC P c = strip b → (∀ r, findI b l = some r → ∃ rest, findLabel c l = some rest ∧ compC P rest = strip r) ∧ (findI b l = none → findLabel c l = none)
  | .cut b, c, e => by
    exact findI_ok (l := l) b c e
  | .seq x y, .seq a b, e => by
    simp only [compC, strip, IC.seq.injEq] at e
    obtain ⟨h1, h2⟩ := findI_ok (l := l) x a e.1
    obtain ⟨h3, h4⟩ := findI_ok (l := l) y b e.2
    refine ⟨fun r hr => ?_, fun hr => ?_⟩
    · simp only [findI] at hr
      split at hr
      · rename_i r' hr'
        simp only [Option.some.injEq] at hr
        subst hr
        obtain ⟨rest, k1, k2⟩ := h1 r' hr'
        exact ⟨.seq rest b, by simp [findLabel, k1], by simp only [compC, strip, k2, e.2]⟩
      · rename_i hr'
        obtain ⟨rest, k1, k2⟩ := h3 r hr
        exact ⟨rest, by simp [findLabel, h2 hr', k1], k2⟩
    · simp only [findI] at hr
      split at hr
      · cases hr
      · rename_i hr'
        simp [findLabel, h2 hr', h4 hr]
  | .label l', .label l2, e => by
    simp only [compC, strip, IC.label.injEq] at e
    subst e
    refine ⟨fun r hr => ?_, fun hr => ?_⟩
    · simp only [findI] at hr
      split at hr
      · rename_i hb
        simp only [Option.some.injEq] at hr
        subst hr
        exact ⟨.skip, by simp [findLabel, Nat.eq_of_beq_eq_true hb], rfl⟩
      · cases hr
    · simp only [findI] at hr
      split at hr
      · cases hr
      · rename_i hb
        simp [findLabel, Nat.ne_of_beq_eq_false hb]
  | .skip, c, e | .reg _, c, e | .drw _, c, e | .cond _ _ _, c, e | .block _ _, c, e | .loop _, c, e | .exit _, c, e | .ret, c, e | .goto _, c, e | .scope _, c, e | .bad, c, e => by
    refine ⟨fun r hr => by simp [findI] at hr, fun _ => ?_⟩
    cases c with
    | seq a b => simp [compC, strip] at e
    | label l' => simp [compC, strip] at e
    | _ => rfl
  | .seq _ _, .skip, e | .seq _ _, .cond _ _ _, e | .seq _ _, .block _ _, e | .seq _ _, .loop _, e | .seq _ _, .rangeFunc _ _ _ _, e | .seq _ _, .exit _, e | .seq _ _, .scope _, e | .seq _ _, .label _, e | .seq _ _, .goto _, e
  | .seq _ _, .ret, e | .seq _ _, .refuse _, e | .seq _ _, .region _ _ false, e => by simp [compC, strip] at e
  | .seq _ _, .region _ ops true, e => by
    simp only [compC, strip] at e
    split at e <;> cases e
  | .label _, .skip, e | .label _, .cond _ _ _, e | .label _, .block _ _, e | .label _, .loop _, e | .label _, .rangeFunc _ _ _ _, e | .label _, .exit _, e | .label _, .scope _, e | .label _, .seq _ _, e | .label _, .goto _, e
  | .label _, .ret, e | .label _, .refuse _, e | .label _, .region _ _ false, e => by simp [compC, strip] at e
  | .label _, .region _ ops true, e => by
    simp only [compC, strip] at e
    split at e <;> cases e

/-- Going on at a label of a scope. -/
def ResE (P : Program) (res : IC → Nat → St O → Kx O → Bool) : Prop := ∃ m, ∀ b l s K, res b l s K = true → ∀ c : Code, compC P c = strip b → ∀ (fr : Fr) (a : Act) (w : World), Sat fr s a w →
  scopeN P c (Post fr fun e s' => K e s' = true) m (.goto l) a w

theorem loopE_ok {P : Program} (hm : P.follows .mixedOrders = true) {n : Nat} {b : IC} {body : St O → Kx O → Bool} (hb : ∀ s K, body s K = true → vC std P n b s fun e s' => K e s' = true) {K : Kx O} :
    ∀ (R : Nat) (s : St O), loopE body R s K = true → LoopVC P n b s fun e s' => K e s' = true := by
  intro R s h
  refine ⟨fun c hc fr a w hn hs => wp_loop_rounds R ?_⟩
  have key : ∀ (R : Nat) (s : St O), loopE body R s K = true → ∀ a w, Sat fr s a w → Code.rounds P c (Post fr fun e s' => K e s' = true) R a w := by
    intro R
    induction R with
    | zero => intro s h; cases h
    | succ R ih =>
      intro s h a w hs
      refine wp_mono (vC_sound' hm n c b s _ hc (hb _ _ h) fr a w hn hs) ?_
      rintro e a' w' ⟨ex, s', rfl, hk, hs'⟩
      cases ex with
      | normal => exact ih s' hk a' w' hs'
      | exit i => exact ⟨.exit i, s', rfl, hk, hs'⟩
      | goto l => exact ⟨.goto l, s', rfl, hk, hs'⟩
      | ret => exact ⟨.ret, s', rfl, hk, hs'⟩
  exact key R s h a w hs

theorem cE_ok {P : Program} (hm : P.follows .mixedOrders = true) {T : Tb O} (hT : T.OK P) {R : Nat} {ev : Ev O} (hcall : CallsE P ev.call) (hres : ResE P ev.res) {n : Nat} :
    ∀ {ic : IC} {s : St O} {K : Kx O}, cE T R ev ic s K = true → vC std P n ic s fun e s' => K e s' = true
  | .skip, _, _, h => h
  | .reg _, _, _, h => lE_ok hT hcall h
  | .drw _, _, _, h => tE_ok hT hcall h
  | .seq a b, s, K, h => by
    simp only [cE] at h
    simp only [vC]
    refine vC_mono (fun e s' h => ?_) (cE_ok hm hT hcall hres h)
    cases e with
    | normal => exact cE_ok hm hT hcall hres h
    | _ => exact h
  | .cond c a b, s, K, h => by
    simp only [cE] at h
    simp only [vC]
    split at h
    · rename_i e; simp only [e, bc]; exact cE_ok hm hT hcall hres h
    · rename_i e; simp only [e, bc]; exact cE_ok hm hT hcall hres h
    · cases h
  | .block id c, s, K, h => by
    simp only [cE] at h
    simp only [vC]
    refine vC_mono (fun e s' h => ?_) (cE_ok hm hT hcall hres h)
    cases e with
    | exit i =>
      simp only at h ⊢
      split at h
      · rename_i e; simp only [e]; exact h
      · rename_i e; simp only [e]; exact h
    | _ => exact h
  | .loop c, s, K, h => loopE_ok hm (fun s K h => cE_ok hm hT hcall hres h) R s h
  | .exit _, _, _, h => h
  | .ret, _, _, h => h
  | .label _, _, _, h => h
  | .goto _, _, _, h => h
  | .scope c, s, K, h => by
    simp only [cE] at h
    simp only [vC]
    refine ⟨fun cc hc fr a w hn hs => ?_⟩
    obtain ⟨m, hres'⟩ := hres
    refine wp_scopeN m (wp_mono (vC_sound' hm n cc c s _ hc (cE_ok hm hT hcall ⟨m, hres'⟩ h) fr a w hn hs) ?_)
    rintro e a' w' ⟨ex, s', rfl, hk, hs'⟩
    cases ex with
    | goto l => exact hres' c l s' K hk cc hc fr a' w' hs'
    | normal => exact scopeN_out (by simp [Ex.toExit]) ⟨.normal, s', rfl, hk, hs'⟩
    | exit i => exact scopeN_out (by simp [Ex.toExit]) ⟨.exit i, s', rfl, hk, hs'⟩
    | ret => exact scopeN_out (by simp [Ex.toExit]) ⟨.ret, s', rfl, hk, hs'⟩
  | .cut _, _, _, h => by cases h
  | .bad, _, _, h => by cases h


/-- Calls and jumps, however many levels deep. -/
theorem evE_ok {P : Program} (hm : P.follows .mixedOrders = true) {T : Tb O} (hT : T.OK P) {R : Nat} : ∀ n : Nat, CallsE P (evE T R n).call ∧ ResE P (evE T R n).res
  | 0 => ⟨fun _ _ _ _ h => Bool.noConfusion h, ⟨0, fun _ _ _ _ h => Bool.noConfusion h⟩⟩
  | n + 1 => by
    obtain ⟨ih1, m, ih2⟩ := evE_ok hm hT (R := R) n
    refine ⟨fun f args mem K h => ?_, m + 1, fun b l s K h c hc fr a w hs => ?_⟩
    · simp only [evE] at h
      split at h
      · rename_i e he
        obtain ⟨hcode, hfn⟩ := hT.fn f e he
        refine ⟨hcode, fn_rule hm hfn (vC_mono (fun ex s' h => ?_) (cE_ok hm hT ih1 ⟨m, ih2⟩ h))⟩
        cases ex with
        | normal =>
          simp only [bodyE] at h
          simp only [bodyK]
          split at h
          · rename_i e; simp only [e]; exact h
          · cases h
        | ret =>
          simp only [bodyE] at h
          simp only [bodyK]
          split at h
          · rename_i e; simp only [e]; exact h
          · cases h
        | _ => cases h
      · split at h
        · rename_i g hg
          split at h
          · rename_i r m' hgr
            obtain ⟨hcode, hc⟩ := hT.pm f g args mem r m' hg hgr
            exact ⟨hcode, hc.mono fun r1 m1 ⟨e1, e2⟩ => by rw [e1, e2]; exact h⟩
          · cases h
        · cases h
    · simp only [evE] at h
      obtain ⟨f1, f2⟩ := findI_ok (P := P) (l := l) b c hc
      split at h
      · rename_i rest hr
        obtain ⟨rest', k1, k2⟩ := f1 rest hr
        refine .inr ⟨l, rest', rfl, k1, wp_mono (vC_sound' hm fr.n rest' rest s _ k2 (cE_ok hm hT ih1 ⟨m, ih2⟩ h) fr a w rfl hs) ?_⟩
        rintro e a' w' ⟨ex, s', rfl, hk, hs'⟩
        cases ex with
        | goto l => exact ih2 b l s' K hk c hc fr a' w' hs'
        | normal => exact scopeN_out (by simp [Ex.toExit]) ⟨.normal, s', rfl, hk, hs'⟩
        | exit i => exact scopeN_out (by simp [Ex.toExit]) ⟨.exit i, s', rfl, hk, hs'⟩
        | ret => exact scopeN_out (by simp [Ex.toExit]) ⟨.ret, s', rfl, hk, hs'⟩
      · rename_i hr
        exact .inl ⟨fun l' hl => by simp only [Exit.goto.injEq] at hl; subst hl; exact f2 hr, ⟨.goto l, s, rfl, h, hs⟩⟩

/-- What a reckoning shows of a call. -/
theorem run_call {P : Program} (hm : P.follows .mixedOrders = true) {T : Tb O} (hT : T.OK P) (R n : Nat) {f : FuncId} {args : List SV} {mem : List (Chunk O)} (K : SV → List (Chunk O) → Bool)
    (h : (evE T R n).call f args mem K = true) : CallOK P f args mem fun r m => K r m = true := ((evE_ok hm hT n).1 f args mem K h).2

end Go.V
