/-
  Families of objects that grow; loops whose states say 'for some places'.
-/
import Derived.Test.YtiaceoomiflgcaaVchF
namespace Go.V

/-- One of some states holds. -/
def EntE {O : Type} [Objs O] (n : Nat) (s : St O) (T : St O → Prop) : Prop := ∀ (fr : Fr) (a : Act) (w : World), fr.n = n → Sat fr s a w → ∃ s', T s' ∧ Sat fr s' a w

theorem EntE.of {O : Type} [Objs O] {n : Nat} {s s' : St O} {T : St O → Prop} (h : Ent n s s') (ht : T s') : EntE n s T := fun fr a w hn hs => ⟨s', ht, h fr a w hn hs⟩
theorem EntE.pre {O : Type} [Objs O] {n : Nat} {s s' : St O} {T : St O → Prop} (h : Ent n s s') (k : EntE n s' T) : EntE n s T := fun fr a w hn hs => k fr a w hn (h fr a w hn hs)
theorem EntE.bind {O : Type} [Objs O] {n : Nat} {s : St O} {T T' : St O → Prop} (h : EntE n s T) (k : ∀ t, T t → EntE n t T') : EntE n s T' := fun fr a w hn hs => by
  obtain ⟨t, ht, hs'⟩ := h fr a w hn hs
  exact k t ht fr a w hn hs'

theorem loop_e {O : Type} [Objs O] {P P' : Program} (hm : P.follows .mixedOrders = true) (hP : P' = P) {A : Ar} (hA : A = std) {n : Nat} {b : IC} {s : St O} {K : Ex → St O → Prop} {ι : Type} (Inv : ι → St O) (μ : ι → Nat) (h0 : EntE n s fun t => ∃ i, t = Inv i)
    (round : ∀ i, vC A P' n b (Inv i) fun e s' => (match e with
      | .normal => EntE n s' fun t => ∃ j, μ j < μ i ∧ t = Inv j
      | .exit l => K (.exit l) s'
      | .goto l => K (.goto l) s'
      | .ret => K .ret s')) : LoopVC P' n b s K := by
  subst hA hP
  refine ⟨fun c hc fr a w hn hs bf k cs => ?_⟩
  have key : ∀ m i a w, μ i = m → Sat fr (Inv i) a w → ∃ e a' w', Post fr K e a' w' ∧ Arrives P' (lone (bf.at a (.code c :: .inLoop c :: k)) cs w) bf k cs e a' w' := by
    intro m
    induction m using Nat.strongRecOn with
    | _ m ih =>
      intro i a w hmu hsat
      obtain ⟨e, a₁, w₁, ⟨ex, s1, rfl, hk, hs1⟩, harr⟩ := vC_sound' hm n c b (Inv i) _ hc (round i) fr a w hn hsat bf (.inLoop c :: k) cs
      cases ex with
      | normal =>
        obtain ⟨t, ⟨j, hlt, rfl⟩, hent⟩ := hk fr _ _ hn hs1
        obtain ⟨e₂, a₂, w₂, hq₂, harr₂⟩ := ih (μ j) (hmu ▸ hlt) j a₁ w₁ rfl hent
        exact ⟨e₂, a₂, w₂, hq₂, .of_steps (Steps.trans harr (.one step_inLoop)) harr₂⟩
      | exit id => exact ⟨_, a₁, w₁, ⟨.exit id, s1, rfl, hk, hs1⟩, .pass (x := .inLoop c) rfl (fun _ _ => .inl (by simp [Ex.toExit])) harr⟩
      | goto l => exact ⟨_, a₁, w₁, ⟨.goto l, s1, rfl, hk, hs1⟩, .pass (x := .inLoop c) rfl (fun _ _ => .inl (by simp [Ex.toExit])) harr⟩
      | ret => exact ⟨_, a₁, w₁, ⟨.ret, s1, rfl, hk, hs1⟩, .pass (x := .inLoop c) rfl (fun _ _ => .inl (by simp [Ex.toExit])) harr⟩
  obtain ⟨t, ⟨i0, rfl⟩, hs0⟩ := h0 fr a w hn hs
  obtain ⟨e, a', w', hq, harr⟩ := key _ i0 a w rfl hs0
  exact ⟨e, a', w', hq, .of_steps (.one step_loop) harr⟩

/-- A loop by an index of any kind of which something holds, from the state at hand; the state that is handed on is one of some. -/
theorem loop_ex {O : Type} [Objs O] {P P' : Program} (hm : P.follows .mixedOrders = true) (hP : P' = P) {A : Ar} (hA : A = std) {n : Nat} {b : IC} {s : St O} {K : Ex → St O → Prop} {ι : Type} (μ : ι → Nat) (p : ι → Prop) (js : List Nat) (cs : ι → List (Nat × SV)) (mem : ι → List (Chunk O))
    (h0 : EntE n s fun t => ∃ i, p i ∧ t = ⟨putsL (junkL s.env js) (cs i), mem i⟩) (round : ∀ (Nx : St O → Prop) i, (∀ s', EntE n s' (fun t => ∃ j, p j ∧ μ j < μ i ∧ t = ⟨putsL (junkL s.env js) (cs j), mem j⟩) → Nx s') → p i → vC A P' n b ⟨putsL (junkL s.env js) (cs i), mem i⟩ fun e s' => (match e with
      | .normal => Nx s'
      | .exit l => K (.exit l) s'
      | .goto l => K (.goto l) s'
      | .ret => K .ret s')) : LoopVC P' n b s K :=
  loop_e hm hP hA (ι := { i : ι // p i }) (fun x => ⟨putsL (junkL s.env js) (cs x.1), mem x.1⟩) (fun x => μ x.1) (fun fr a w hn hs => by
    obtain ⟨t, ⟨i, hi, rfl⟩, h⟩ := h0 fr a w hn hs
    exact ⟨_, ⟨⟨i, hi⟩, rfl⟩, h⟩) fun x => round (fun s' => EntE n s' fun t => ∃ j : { i : ι // p i }, μ j.1 < μ x.1 ∧ t = ⟨putsL (junkL s.env js) (cs j.1), mem j.1⟩) x.1 (fun s' h fr a w hn hs => by
      obtain ⟨t, ⟨j, hj, hlt, rfl⟩, h'⟩ := h fr a w hn hs
      exact ⟨_, ⟨⟨j, hj⟩, hlt, rfl⟩, h'⟩) x.2

/-- An object that the last element of a row of pointers points to joins the family behind the row. -/
theorem famA {n : Nat} {env : List SV} {mem : List (Chunk Ob)} (v k N c : Nat) {m sz : Nat} {at_ : Nat → Nat → SV} {bs : Nat → Nat} {o o' : Nat → Ob} {x : Ob} (hgv : lget mem v = some (.vec (m + 1) sz at_)) (hgk : lget mem k = some (.obj (.fam m bs (fun _ => false) o))) (hgN : lget mem N = some (.obj x)) (hne : N ≠ k)
    (hat : ∀ j, j < m → at_ j c = .gp (bs j)) (hal : at_ m c = .ptr N 0) (ho : ∀ j, j < m → o' j = o j) (hx : o' m = x) :
    EntE n ⟨env, mem⟩ fun t => ∃ bs' : Nat → Nat, t = ⟨env, lset (lset (lset mem v (.vec (m + 1) sz fun j f => if f = c then .gp (bs' j) else at_ j f)) k (.obj (.fam (m + 1) bs' (fun _ => false) o'))) N .gone⟩ := by
  rintro fr a w rfl ⟨hd, β, I, F, hm, hE, hW, hB, hN⟩
  have hm : MSat β I w F mem := hm
  have hE : RelL β mem.length I w env a.tmps.toList := hE
  have hgvE : mem[v]? = some (.vec (m + 1) sz at_) := by rw [← lget_eq]; exact hgv
  have hgkE : mem[k]? = some (.obj (.fam m bs (fun _ => false) o)) := by rw [← lget_eq]; exact hgk
  have hgNE : mem[N]? = some (.obj x) := by rw [← lget_eq]; exact hgN
  have hv : v < mem.length := lt_get hgvE
  have hk : k < mem.length := lt_get hgkE
  have hNl : N < mem.length := lt_get hgNE
  have hvk : v ≠ k := fun e => by subst e; rw [hgvE] at hgkE; cases hgkE
  have hvN : v ≠ N := fun e => by subst e; rw [hgvE] at hgNE; cases hgNE
  obtain ⟨hp, hc⟩ := hm.chunk k _ hgkE
  have hc : OSat (.fam m bs (fun _ => false) o) (β k).blk w I (F k) := hc
  obtain ⟨hpN, hxs⟩ := hm.chunk N _ hgNE
  have hxs : OSat x (β N).blk w I (F N) := hxs
  have hoff : (β N).off = 0 := hpN.1
  have hcv := hm.chunk v _ hgvE
  generalize hbk : (β k).blk = bk at hc
  generalize hFk : F k = Fk at hc
  cases hc with
  | @fam _ _ _ _ _ _ _ _ Fj objs apart own =>
  let bs' : Nat → Nat := fun j => if j < m then bs j else (β N).blk
  let F' : Nat → Nat → Prop := fun j b => if j = N then False else if j = k then F k b ∨ F N b else F j b
  let Fj' : Nat → Nat → Prop := fun j b => if j < m then Fj j b else F N b
  let c1 : Chunk Ob := .vec (m + 1) sz fun j f => if f = c then .gp (bs' j) else at_ j f
  let c2 : Chunk Ob := .obj (.fam (m + 1) bs' (fun _ => false) o')
  have hlen : (lset (lset (lset mem v c1) k c2) N .gone).length = mem.length := by simp [lset_eq]
  have hin : ∀ j b, F' j b → F j b ∨ (j = k ∧ F N b) := by
    intro j b hb
    simp only [F'] at hb
    split at hb
    · exact hb.elim
    · split at hb
      · rename_i e; subst e; exact hb.imp id fun h => ⟨rfl, h⟩
      · exact .inl hb
  refine ⟨⟨env, lset (lset (lset mem v c1) k c2) N .gone⟩, ⟨bs', rfl⟩, hd, β, I, F', ⟨fun g d hc => ?_, fun g g' b h1 h2 => ?_, fun g b hg hF => ?_, fun g b hF => ?_, hm.wh⟩, ?_, ?_, hB, ?_⟩
  · show CSat β _ I w g (F' g) d
    rw [hlen]
    have hc : (lset (lset (lset mem v c1) k c2) N .gone)[g]? = some d := hc
    rw [lset_eq, List.getElem?_set] at hc
    by_cases hgN' : N = g
    · subst hgN'
      rw [if_pos rfl, if_pos (by simpa [lset_eq] using hNl)] at hc
      simp only [Option.some.injEq] at hc
      subst hc
      intro b hb
      simp [F'] at hb
    · rw [if_neg hgN', lset_eq, List.getElem?_set] at hc
      by_cases hgk' : k = g
      · subst hgk'
        rw [if_pos rfl, if_pos (by simpa [lset_eq] using hk)] at hc
        simp only [Option.some.injEq] at hc
        subst hc
        refine ⟨hp, OSat.fam (Fj := Fj') (fun j hj _ => ?_) (fun j j' b hj hj' _ _ h1 h2 => ?_) (fun b => ?_)⟩
        · by_cases e : j < m
          · have e1 : Fj' j = Fj j := by funext b; simp [Fj', e]
            have e2 : bs' j = bs j := if_pos e
            rw [ho j e, e1, e2]; exact objs j e rfl
          · obtain rfl : j = m := by omega
            have e1 : Fj' j = F N := by funext b; simp [Fj']
            have e2 : bs' j = (β N).blk := if_neg e
            rw [hx, e1, e2]; exact hxs
        · simp only [Fj'] at h1 h2
          by_cases e : j < m <;> by_cases e' : j' < m
          · rw [if_pos e] at h1; rw [if_pos e'] at h2
            exact apart j j' b e e' rfl rfl h1 h2
          · rw [if_pos e] at h1; rw [if_neg e'] at h2
            have h3 : F k b := by rw [hFk]; exact (own b).2 ⟨j, e, rfl, h1⟩
            exact (hne (hm.apart N k b h2 h3)).elim
          · rw [if_neg e] at h1; rw [if_pos e'] at h2
            have h3 : F k b := by rw [hFk]; exact (own b).2 ⟨j', e', rfl, h2⟩
            exact (hne (hm.apart N k b h1 h3)).elim
          · omega
        · have e2 : F' k b ↔ F k b ∨ F N b := by simp [F', Ne.symm hne]
          rw [e2, hFk, own]
          constructor
          · rintro (⟨j, h1, _, h3⟩ | h)
            · exact ⟨j, by omega, rfl, by simp only [Fj']; rw [if_pos h1]; exact h3⟩
            · exact ⟨m, by omega, rfl, by simp only [Fj']; rw [if_neg (Nat.lt_irrefl m)]; exact h⟩
          · rintro ⟨j, h1, _, h3⟩
            simp only [Fj'] at h3
            by_cases e : j < m
            · rw [if_pos e] at h3; exact .inl ⟨j, e, rfl, h3⟩
            · rw [if_neg e] at h3; exact .inr h3
      · rw [if_neg hgk', lset_eq, List.getElem?_set] at hc
        have e2 : F' g = F g := by funext b; simp [F', Ne.symm hgN', Ne.symm hgk']
        rw [e2]
        by_cases hgv' : v = g
        · subst hgv'
          rw [if_pos rfl, if_pos hv] at hc
          simp only [Option.some.injEq] at hc
          subst hc
          simp only [CSat] at hcv
          obtain ⟨g1, g2, g3, g4, g5⟩ := hcv
          simp only [c1, CSat]
          refine ⟨g1, g2, g3, g4, ?_⟩
          split
          · rename_i h0; simpa only [h0, if_true] using g5
          · rename_i h0
            simp only [h0, if_false] at g5
            obtain ⟨g5, cs, T, g6, g7, g8⟩ := g5
            refine ⟨g5, cs, T, g6, g7, fun i f hi hf => ?_⟩
            obtain ⟨y, hy, hry, h1⟩ := g8 i f hi hf
            refine ⟨y, hy, ?_, h1⟩
            split
            · rename_i hfc
              subst hfc
              by_cases e : i < m
              · have e1 : bs' i = bs i := if_pos e
                rw [e1, ← hat i e]; exact hry
              · obtain rfl : i = m := by omega
                have e1 : bs' i = (β N).blk := if_neg e
                rw [hal] at hry
                simp only [Rel] at hry ⊢
                rw [e1, hry.2, hoff]
            · exact hry
        · rw [if_neg hgv'] at hc
          exact hm.chunk g d hc
  · have n1 : g ≠ N := fun e => by subst e; simp [F'] at h1
    have n2 : g' ≠ N := fun e => by subst e; simp [F'] at h2
    rcases hin g b h1 with q1 | ⟨e1, q1⟩ <;> rcases hin g' b h2 with q2 | ⟨e2, q2⟩
    · exact hm.apart g g' b q1 q2
    · exact (n1 (hm.apart g N b q1 q2)).elim
    · exact (n2 (hm.apart g' N b q2 q1)).elim
    · rw [e1, e2]
  · have hg : (lset (lset (lset mem v c1) k c2) N .gone).length ≤ g := hg
    rw [hlen] at hg
    rcases hin g b hF with q | ⟨e, q⟩
    · exact hm.none g b hg q
    · omega
  · rcases hin g b hF with q | ⟨e, q⟩
    · exact hm.old g b q
    · exact hm.old N b q
  · show RelL β _ I w env a.tmps.toList
    rw [hlen]; exact hE
  · refine ⟨hW.os, hW.tape, hW.output, hW.size, hW.same, hW.frozen, hW.keep, fun b ⟨g, hb⟩ => ?_, hW.whole⟩
    rcases hin g b hb with q | ⟨e, q⟩
    · exact hW.ownd b ⟨g, q⟩
    · exact hW.ownd b ⟨N, q⟩
  · show fr.n ≤ _
    rw [hlen]; exact hN

/-- An empty family behind a row of no elements. -/
theorem Ent.fam0 {n : Nat} {env : List SV} {mem : List (Chunk Ob)} (bs : Nat → Nat) (o : Nat → Ob) : Ent n ⟨env, mem⟩ ⟨env, mem ++ [.obj (.fam 0 bs (fun _ => false) o)]⟩ := by
  rintro fr a w rfl ⟨hd, β, I, F, hm, hE, hW, hB, hN⟩
  have hm : MSat β I w F mem := hm
  have hN : fr.n ≤ mem.length := hN
  have hadd : MSat (fup β mem.length ⟨0, 0, 0, 0, false, none⟩) I w (fup F mem.length fun _ => False) (mem ++ [.obj (.fam 0 bs (fun _ => false) o)]) := by
    refine hm.add (Nat.le_refl _) (fun _ _ => rfl) (fun b hb => hb.elim) ?_
    simp only [CSat, fup_eq]
    exact ⟨⟨rfl, rfl, rfl, rfl, rfl⟩, OSat.fam (Fj := fun _ _ => False) (fun j hj => absurd hj (Nat.not_lt_zero j)) (fun j _ _ hj => absurd hj (Nat.not_lt_zero j)) fun k => ⟨fun h => h.elim, fun ⟨j, hj, _⟩ => absurd hj (Nat.not_lt_zero j)⟩⟩
  refine ⟨hd, _, I, _, hadd, ?_, ?_, fun k hk => ?_, ?_⟩
  · show RelL _ (mem ++ [Chunk.obj (Ob.fam 0 bs (fun _ => false) o)]).length I w env a.tmps.toList
    rw [List.length_append]
    exact RelL.mono (fun _ hh => fup_lt hh) (Nat.le_add_right _ _) (fun _ h => h) (fun _ _ => rfl) hE
  · exact hW.trans (Went.add (fun b hb => hm.none _ b (Nat.le_refl _) hb) rfl rfl rfl (Nat.le_refl _) (fun _ _ => rfl) (fun b hb => hb.elim) fun _ => rfl)
  · rw [fup_lt (Nat.lt_of_lt_of_le hk hN)]; exact hB k hk
  · show fr.n ≤ (mem ++ [Chunk.obj (Ob.fam 0 bs (fun _ => false) o)]).length
    rw [List.length_append]; omega

theorem gsets_length (N : Nat) : ∀ (ps : List Nat) (l : List SV), (gsets N ps l).length = l.length
  | [], _ => rfl
  | p :: ps, l => by rw [gsets, gsets_length N ps, lset_eq, List.length_set]

/-- Ahead of a call one of a family's objects is taken out. -/
theorem call_fam {P' : Program} {f : FuncId} {d : Option Nat} {xs : List X} {s : St Ob} {K : St Ob → Prop} (k i : Nat) (ps : List Nat) {m : Nat} {bs : Nat → Nat} {sk : Nat → Bool} {o : Nat → Ob} (hget : lget s.mem k = some (.obj (.fam m bs sk o))) (hi : i < m) (hs : sk i = false)
    (hps : gHas (bs i) ps (xs.map s.ev ++ s.env)) (h : CallVC P' f d (((gsets s.mem.length ps (xs.map s.ev ++ s.env)).take xs.length).map X.c)
      ⟨(gsets s.mem.length ps (xs.map s.ev ++ s.env)).drop xs.length, lset s.mem k (.obj (.fam m bs (fun j => if j = i then true else sk j) o)) ++ [.obj (.at_ (bs i) (o i))]⟩ K) : CallVC P' f d xs s K := by
  refine call_ent _ _ _ ?_ (fun n hn => ?_) h
  · rw [List.length_take, gsets_length, List.length_append, List.length_map]; omega
  · rw [List.take_append_drop]
    exact Ent.famO k i ps hget hi hs hps hn

/-- A contract of an object whose place is known. -/
theorem CallOK.atx {P : Program} {f : FuncId} {args : List SV} {x y : Ob} {R : SV → Prop} (g : Nat) (h : CallOK (O := Ob) P f args [.obj x] fun r m => R r ∧ m = [.obj y]) : CallOK (O := Ob) P f args [.obj (.at_ g x)] fun r m => R r ∧ m = [.obj (.at_ g y)] := by
  refine (h.at_ g fun r m hq => ⟨y, [], hq.2⟩).mono ?_
  rintro r m ⟨y', l, rfl, hr, hm⟩
  cases hm
  exact ⟨hr, rfl⟩

end Go.V
