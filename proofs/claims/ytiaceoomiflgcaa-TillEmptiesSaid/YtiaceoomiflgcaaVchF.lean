/-
  Families of objects behind a row of pointers: opening one of them, and shutting it away again.
-/
import Derived.Test.YtiaceoomiflgcaaVchE
namespace Go.V

/-- A call seen from a state that says less. -/
theorem call_ent {O : Type} [Objs O] {P' : Program} {f : FuncId} {d : Option Nat} {xs : List X} {s : St O} {K : St O → Prop} (args env : List SV) (mem : List (Chunk O)) (hl : args.length = xs.length) (he : ∀ n, n ≤ s.mem.length → Ent n ⟨xs.map s.ev ++ s.env, s.mem⟩ ⟨args ++ env, mem⟩)
    (h : CallVC P' f d (args.map X.c) ⟨env, mem⟩ K) : CallVC P' f d xs s K := by
  refine ⟨h.c, fun fr a w vs hX next hnext => ?_⟩
  obtain ⟨hd, β, I, F, hM, hE, hW, hB, hN, hV⟩ := hX
  have hs : Sat fr (⟨xs.map s.ev ++ s.env, s.mem⟩ : St O) { tmps := (vs ++ a.tmps.toList).toArray, defers := [] } w :=
    ⟨rfl, β, I, F, hM, by simpa using RelL.append hV hE, hW, hB, hN⟩
  obtain ⟨_, β2, I2, F2, k1, k2, k3, k4, k5⟩ := he fr.n hN fr _ w rfl hs
  have k2 : RelL β2 mem.length I2 w (args ++ env) (vs ++ a.tmps.toList) := by simpa using k2
  have hvl : vs.length = args.length := by rw [hV.length, List.length_map, hl]
  obtain ⟨h1, h2⟩ := RelL.split hvl k2
  refine h.h fr a w vs ⟨hd, β2, I2, F2, k1, h2, k3, k4, k5, ?_⟩ next hnext
  have e : (args.map X.c).map (St.ev ⟨env, mem⟩) = args := by
    rw [List.map_map]
    conv => rhs; rw [← List.map_id args]
    rfl
  rw [e]; exact h1

/-- What is shut away for some places is shut away for those at hand. -/
theorem Ent.exI {n : Nat} {env : List SV} {mem : List (Chunk Ob)} (k : Nat) {o : (Nat → Nat) → Ob} (bs : Nat → Nat) (hget : lget mem k = some (.obj (o bs))) : Ent n ⟨env, mem⟩ ⟨env, lset mem k (.obj (.ex o))⟩ := by
  rintro fr a w rfl ⟨hd, β, I, F, hm, hE, hW, hB, hN⟩
  have hm : MSat β I w F mem := hm
  have hgetE : mem[k]? = some (.obj (o bs)) := by rw [← lget_eq]; exact hget
  have hlen : (lset mem k (.obj (.ex o))).length = mem.length := by simp [lset_eq]
  refine ⟨hd, β, I, F, ⟨fun g c hc => ?_, hm.apart, fun g b hg => hm.none g b (by have h0 : (lset mem k (.obj (.ex o))).length ≤ g := hg; rwa [hlen] at h0), hm.old, hm.wh⟩, ?_, hW, hB, ?_⟩
  · show CSat β (lset mem k (.obj (.ex o))).length I w g (F g) c
    rw [hlen]
    rw [show (⟨env, lset mem k (.obj (.ex o))⟩ : St Ob).mem = lset mem k (.obj (.ex o)) from rfl, lset_eq, List.getElem?_set] at hc
    split at hc
    · rename_i e
      subst e
      rw [if_pos (lt_get hgetE)] at hc
      simp only [Option.some.injEq] at hc
      subst hc
      have := hm.chunk k _ hgetE
      exact ⟨this.1, OSat.ex bs this.2⟩
    · exact hm.chunk g c hc
  · show RelL β (lset mem k (.obj (.ex o))).length I w env a.tmps.toList
    rw [hlen]; exact hE
  · show fr.n ≤ (lset mem k (.obj (.ex o))).length
    rw [hlen]; exact hN

/-- A call's contract holds for some places, if it does for any. -/
theorem CallOK.exE {P : Program} {f : FuncId} {args : List SV} {mem : List (Chunk Ob)} {Q : SV → List (Chunk Ob) → Prop} (k : Nat) {o : (Nat → Nat) → Ob} (hget : lget mem k = some (.obj (.ex o))) (h : ∀ bs, CallOK P f args (lset mem k (.obj (o bs))) Q) : CallOK P f args mem Q := by
  intro β I w F vs hm ha
  have hgetE : mem[k]? = some (.obj (.ex o)) := by rw [← lget_eq]; exact hget
  have hc := hm.chunk k _ hgetE
  obtain ⟨hp, hc⟩ := hc
  have hc : OSat (.ex o) (β k).blk w I (F k) := hc
  cases hc with
  | ex bs hc =>
  have hlen : (lset mem k (.obj (o bs))).length = mem.length := by simp [lset_eq]
  have hm2 : MSat β I w F (lset mem k (.obj (o bs))) := by
    refine ⟨fun g c hg => ?_, hm.apart, fun g b hg => hm.none g b (by rwa [hlen] at hg), hm.old, hm.wh⟩
    rw [hlen]
    rw [lset_eq, List.getElem?_set] at hg
    split at hg
    · rename_i e
      subst e
      rw [if_pos (lt_get hgetE)] at hg
      simp only [Option.some.injEq] at hg
      subst hg
      exact ⟨hp, hc⟩
    · exact hm.chunk g c hg
  have := h bs β I w F vs hm2 (by rw [hlen]; exact ha)
  rw [hlen] at this
  exact this

/-- An object's place is known still behind a call. -/
theorem CallOK.at_ {P : Program} {f : FuncId} {args : List SV} {x : Ob} {Q : SV → List (Chunk Ob) → Prop} (g : Nat) (h : CallOK P f args [.obj x] Q) (hq : ∀ r m, Q r m → ∃ y l, m = .obj y :: l) :
    CallOK P f args [.obj (.at_ g x)] fun r m => ∃ y l, m = .obj (.at_ g y) :: l ∧ Q r (.obj y :: l) := by
  intro β I w F vs hm ha
  have hc := hm.chunk 0 _ rfl
  obtain ⟨hp, hc⟩ := hc
  have hc : OSat (.at_ g x) (β 0).blk w I (F 0) := hc
  cases hc with
  | at_ e hc =>
  have hm2 : MSat β I w F [.obj x] := by
    refine ⟨fun j c hg => ?_, hm.apart, hm.none, hm.old, hm.wh⟩
    cases j with
    | zero =>
      simp only [List.getElem?_cons_zero, Option.some.injEq] at hg
      subst hg
      exact ⟨hp, hc⟩
    | succ j => simp at hg
  refine Calls.mono (h β I w F vs hm2 ha) ?_
  rintro e' w' ⟨v, β', I', F', sv, m, h1, h2, h3, h4, h5, h6, h7⟩
  obtain ⟨y, l, rfl⟩ := hq _ _ h7
  refine ⟨v, β', I', F', sv, .obj (.at_ g y) :: l, h1, h2, h3, h4, ?_, h6, y, l, rfl, h7⟩
  refine ⟨fun j c hg => ?_, h5.apart, h5.none, h5.old, h5.wh⟩
  cases j with
  | zero =>
    simp only [List.getElem?_cons_zero, Option.some.injEq] at hg
    subst hg
    have h0 := h5.chunk 0 _ rfl
    refine ⟨h0.1, OSat.at_ ?_ h0.2⟩
    rw [h3 0 (by simp)]; exact e
  | succ j => exact h5.chunk (j + 1) c hg

/-- A pointer is written by its handle. -/
def gsets (N : Nat) : List Nat → List SV → List SV
  | [], l => l
  | p :: ps, l => gsets N ps (lset l p (.ptr N 0))

def gHas (g : Nat) : List Nat → List SV → Prop
  | [], _ => True
  | p :: ps, l => lget l p = some (.gp g) ∧ gHas g ps l

theorem gsets_rel {β : Nat → HI} {N N' : Nat} {I : Nat → Prop} {w : World} {g : Nat} (hN : N < N') (hb : (β N).blk = g) (ho : (β N).off = 0) : ∀ {ps : List Nat} {env : List SV} {xs : List Value}, gHas g ps env → RelL β N' I w env xs → RelL β N' I w (gsets N ps env) xs := by
  intro ps env xs hg hE
  have key : ∀ p, p ∈ ps → lget env p = some (.gp g) := by
    clear hE
    induction ps with
    | nil => intro p h; cases h
    | cons q qs ih =>
      intro p h
      rcases List.mem_cons.1 h with rfl | h
      · exact hg.1
      · exact ih hg.2 p h
  have step : ∀ (ps : List Nat) (env' : List SV), (∀ p, p ∈ ps → lget env p = some (.gp g)) → RelL β N' I w env' xs → RelL β N' I w (gsets N ps env') xs := by
    intro ps
    induction ps with
    | nil => exact fun env' _ h => h
    | cons q qs ih =>
      intro env' hq hE'
      refine ih _ (fun p hp => hq p (List.mem_cons_of_mem _ hp)) ?_
      obtain ⟨x, hx, hr⟩ := RelL.get hE (hq q (List.mem_cons_self))
      have hx' : xs.set q x = xs := by
        apply List.ext_getElem?
        intro i
        rw [List.getElem?_set]
        split
        · rename_i e
          subst e
          split
          · exact hx.symm
          · rename_i h; rw [List.getElem?_eq_none (by omega)] at hx; cases hx
        · rfl
      have := hE'.set (i := q) (v := .ptr N 0) (x := x) ?_
      · rwa [hx'] at this
      · simp only [Rel] at hr ⊢
        exact ⟨hN, by rw [hr, hb, ho]⟩
  exact step ps env key hE

/-- One of the objects of a family is taken out: at a new handle. -/
theorem Ent.famO {n : Nat} {env : List SV} {mem : List (Chunk Ob)} (k i : Nat) (ps : List Nat) {m : Nat} {bs : Nat → Nat} {sk : Nat → Bool} {o : Nat → Ob} (hget : lget mem k = some (.obj (.fam m bs sk o))) (hi : i < m) (hs : sk i = false) (hps : gHas (bs i) ps env) (hn : n ≤ mem.length) :
    Ent n ⟨env, mem⟩ ⟨gsets mem.length ps env, lset mem k (.obj (.fam m bs (fun j => if j = i then true else sk j) o)) ++ [.obj (.at_ (bs i) (o i))]⟩ := by
  rintro fr a w rfl ⟨hd, β, I, F, hm, hE, hW, hB, hN⟩
  have hm : MSat β I w F mem := hm
  have hE : RelL β mem.length I w env a.tmps.toList := hE
  have hgetE : mem[k]? = some (.obj (.fam m bs sk o)) := by rw [← lget_eq]; exact hget
  have hk : k < mem.length := lt_get hgetE
  obtain ⟨hp, hc⟩ := hm.chunk k _ hgetE
  have hc : OSat (.fam m bs sk o) (β k).blk w I (F k) := hc
  generalize (β k).blk = bk at hc
  generalize hFk : F k = Fk at hc
  cases hc with
  | @fam _ _ _ _ _ _ _ _ Fj objs apart own =>
  let N := mem.length
  let β' : Nat → HI := fun j => if j = N then ⟨bs i, 0, 0, 0, false, none⟩ else β j
  let F' : Nat → Nat → Prop := fun j b => if j = N then Fj i b else if j = k then ∃ j', j' < m ∧ sk j' = false ∧ j' ≠ i ∧ Fj j' b else F j b
  have hβ : ∀ j, j < N → β' j = β j := fun j hj => if_neg (Nat.ne_of_lt hj)
  have hin : ∀ b, Fj i b → F k b := fun b hb => by rw [hFk]; exact (own b).2 ⟨i, hi, hs, hb⟩
  have hin' : ∀ j b, F' j b → (if j = N then F k b else F j b) := by
    intro j b hb
    simp only [F'] at hb
    split at hb
    · rw [if_pos ‹_›]; exact hin b hb
    · rw [if_neg ‹_›]
      split at hb
      · rename_i e; subst e
        obtain ⟨j', h1, h2, _, h3⟩ := hb
        rw [hFk]; exact (own b).2 ⟨j', h1, h2, h3⟩
      · exact hb
  have hlen : (lset mem k (.obj (.fam m bs (fun j => if j = i then true else sk j) o)) ++ [(.obj (.at_ (bs i) (o i)) : Chunk Ob)]).length = N + 1 := by simp [lset_eq, N]
  have hFN : ∀ b, ¬ F N b := fun b => hm.none N b (Nat.le_refl _)
  refine ⟨hd, β', I, F', ⟨fun g c hc => ?_, fun g g' b h1 h2 => ?_, fun g b hg hF => ?_, fun g b hF => ?_, hm.wh⟩, ?_, ?_, fun j hj => ?_, ?_⟩
  · show CSat β' _ I w g (F' g) c
    rw [hlen]
    have hc : (lset mem k (.obj (.fam m bs (fun j => if j = i then true else sk j) o)) ++ [.obj (.at_ (bs i) (o i))])[g]? = some c := hc
    by_cases hgN : g = N
    · subst hgN
      rw [List.getElem?_append_right (by simp [lset_eq, N]), show N - (lset mem k (.obj (.fam m bs (fun j => if j = i then true else sk j) o) : Chunk Ob)).length = 0 by simp [lset_eq, N]] at hc
      simp only [List.getElem?_cons_zero, Option.some.injEq] at hc
      subst hc
      have e1 : β' N = ⟨bs i, 0, 0, 0, false, none⟩ := if_pos rfl
      have e2 : F' N = Fj i := by funext b; simp [F']
      show (β' N).plain ∧ OSat _ (β' N).blk w I (F' N)
      rw [e1, e2]
      exact ⟨⟨rfl, rfl, rfl, rfl, rfl⟩, OSat.at_ rfl (objs i hi hs)⟩
    · have hgl : g < mem.length := by
        have := lt_get hc
        rw [hlen] at this
        omega
      rw [List.getElem?_append_left (by simpa [lset_eq] using hgl), lset_eq, List.getElem?_set] at hc
      by_cases hgk : k = g
      · subst hgk
        rw [if_pos rfl, if_pos hk] at hc
        simp only [Option.some.injEq] at hc
        subst hc
        show (β' k).plain ∧ OSat _ (β' k).blk w I (F' k)
        rw [hβ k hk]
        refine ⟨hp, OSat.fam (Fj := Fj) (fun j hj hs' => ?_) (fun j j' b hj hj' hs1 hs2 => ?_) (fun b => ?_)⟩
        · split at hs'
          · cases hs'
          · exact objs j hj hs'
        · split at hs1
          · cases hs1
          · split at hs2
            · cases hs2
            · exact apart j j' b hj hj' hs1 hs2
        · have e2 : F' k b ↔ ∃ j', j' < m ∧ sk j' = false ∧ j' ≠ i ∧ Fj j' b := by simp [F', hgN]
          rw [e2]
          constructor
          · rintro ⟨j', h1, h2, h3, h4⟩; exact ⟨j', h1, by rw [if_neg h3]; exact h2, h4⟩
          · rintro ⟨j', h1, h2, h4⟩
            split at h2
            · cases h2
            · rename_i h3; exact ⟨j', h1, h2, h3, h4⟩
      · rw [if_neg hgk] at hc
        have e2 : F' g = F g := by funext b; simp [F', hgN, Ne.symm hgk]
        rw [e2]
        exact (hm.chunk g c hc).mono hgl hβ (Nat.le_succ _) (fun _ h => h) (fun _ _ => rfl)
  · have q1 := hin' g b h1
    have q2 := hin' g' b h2
    simp only [F'] at h1 h2
    by_cases hg : g = N <;> by_cases hg' : g' = N
    · rw [hg, hg']
    · rw [if_pos hg] at h1 q1; rw [if_neg hg'] at h2 q2
      have := hm.apart k g' b q1 q2
      subst this
      rw [if_pos rfl] at h2
      obtain ⟨j', a1, a2, a3, a4⟩ := h2
      exact (a3 (apart j' i b a1 hi a2 hs a4 h1)).elim
    · rw [if_neg hg] at h1 q1; rw [if_pos hg'] at h2 q2
      have := hm.apart k g b q2 q1
      subst this
      rw [if_pos rfl] at h1
      obtain ⟨j', a1, a2, a3, a4⟩ := h1
      exact (a3 (apart j' i b a1 hi a2 hs a4 h2)).elim
    · rw [if_neg hg] at q1; rw [if_neg hg'] at q2
      exact hm.apart g g' b q1 q2
  · have hg : (lset mem k (.obj (.fam m bs (fun j => if j = i then true else sk j) o)) ++ [(.obj (.at_ (bs i) (o i)) : Chunk Ob)]).length ≤ g := hg
    rw [hlen] at hg
    have := hin' g b hF
    rw [if_neg (by omega)] at this
    exact hm.none g b (by omega) this
  · have := hin' g b hF
    split at this
    · exact hm.old k b this
    · exact hm.old g b this
  · show RelL β' _ I w (gsets N ps env) a.tmps.toList
    rw [hlen]
    exact gsets_rel (Nat.lt_succ_self N) (by simp [β']) (by simp [β']) hps (hE.mono hβ (Nat.le_succ _) (fun _ h => h) (fun _ _ => rfl))
  · refine ⟨hW.os, hW.tape, hW.output, hW.size, hW.same, hW.frozen, hW.keep, fun b ⟨g, hb⟩ => ?_, hW.whole⟩
    have := hin' g b hb
    split at this
    · exact hW.ownd b ⟨k, this⟩
    · exact hW.ownd b ⟨g, this⟩
  · rw [hβ j (Nat.lt_of_lt_of_le hj hN)]; exact hB j hj
  · show fr.n ≤ _
    rw [hlen]
    exact Nat.le_succ_of_le hN

/-- An object of a family with another in its place. -/
def updO (o : Nat → Ob) (i : Nat) (x : Ob) : Nat → Ob := fun j => if j = i then x else o j

/-- The one that was taken out is put back. -/
theorem Ent.famC {n : Nat} {env : List SV} {mem : List (Chunk Ob)} (k N i : Nat) {m : Nat} {bs : Nat → Nat} {sk sk' : Nat → Bool} {o o' : Nat → Ob} {x : Ob} (hget : lget mem k = some (.obj (.fam m bs sk o))) (hgN : lget mem N = some (.obj (.at_ (bs i) x))) (hne : N ≠ k) (hi : i < m)
    (hs : sk i = true) (hsk : ∀ j, j < m → sk' j = if j = i then false else sk j) (ho : ∀ j, j < m → o' j = if j = i then x else o j) :
    Ent n ⟨env, mem⟩ ⟨env, lset (lset mem k (.obj (.fam m bs sk' o'))) N .gone⟩ := by
  rintro fr a w rfl ⟨hd, β, I, F, hm, hE, hW, hB, hN⟩
  have hm : MSat β I w F mem := hm
  have hE : RelL β mem.length I w env a.tmps.toList := hE
  have hgetE : mem[k]? = some (.obj (.fam m bs sk o)) := by rw [← lget_eq]; exact hget
  have hgNE : mem[N]? = some (.obj (.at_ (bs i) x)) := by rw [← lget_eq]; exact hgN
  have hk : k < mem.length := lt_get hgetE
  have hNl : N < mem.length := lt_get hgNE
  obtain ⟨hp, hc⟩ := hm.chunk k _ hgetE
  have hc : OSat (.fam m bs sk o) (β k).blk w I (F k) := hc
  obtain ⟨hpN, hcN⟩ := hm.chunk N _ hgNE
  have hcN : OSat (.at_ (bs i) x) (β N).blk w I (F N) := hcN
  have hx : OSat x (bs i) w I (F N) := by
    generalize hb : (β N).blk = b at hcN
    cases hcN with
    | at_ e h => subst e; exact h
  generalize (β k).blk = bk at hc
  generalize hFk : F k = Fk at hc
  cases hc with
  | @fam _ _ _ _ _ _ _ _ Fj objs apart own =>
  let F' : Nat → Nat → Prop := fun j b => if j = N then False else if j = k then F k b ∨ F N b else F j b
  let Fj' : Nat → Nat → Prop := fun j b => if j = i then F N b else Fj j b
  have hlen : (lset (lset mem k (.obj (.fam m bs sk' o'))) N .gone).length = mem.length := by simp [lset_eq]
  have hin : ∀ j b, F' j b → F j b ∨ (j = k ∧ F N b) := by
    intro j b hb
    simp only [F'] at hb
    split at hb
    · exact hb.elim
    · split at hb
      · rename_i e; subst e; exact hb.imp id fun h => ⟨rfl, h⟩
      · exact .inl hb
  refine ⟨hd, β, I, F', ⟨fun g c hc => ?_, fun g g' b h1 h2 => ?_, fun g b hg hF => ?_, fun g b hF => ?_, hm.wh⟩, ?_, ?_, hB, ?_⟩
  · show CSat β _ I w g (F' g) c
    rw [hlen]
    have hc : (lset (lset mem k (.obj (.fam m bs sk' o'))) N .gone)[g]? = some c := hc
    rw [lset_eq, List.getElem?_set] at hc
    by_cases hgN' : N = g
    · subst hgN'
      rw [if_pos rfl, if_pos (by simpa [lset_eq] using hNl)] at hc
      simp only [Option.some.injEq] at hc
      subst hc
      intro b hb
      simp [F'] at hb
    · rw [if_neg hgN', lset_eq, List.getElem?_set] at hc
      by_cases hgk : k = g
      · subst hgk
        rw [if_pos rfl, if_pos hk] at hc
        simp only [Option.some.injEq] at hc
        subst hc
        refine ⟨hp, OSat.fam (Fj := Fj') (fun j hj hs' => ?_) (fun j j' b hj hj' hs1 hs2 h1 h2 => ?_) (fun b => ?_)⟩
        · rw [ho j hj]
          rw [hsk j hj] at hs'
          by_cases e : j = i
          · subst e
            have : Fj' j = F N := by funext b; simp [Fj']
            rw [this, if_pos rfl]; exact hx
          · have : Fj' j = Fj j := by funext b; simp [Fj', e]
            rw [if_neg e] at hs'
            rw [this, if_neg e]; exact objs j hj hs'
        · rw [hsk j hj] at hs1
          rw [hsk j' hj'] at hs2
          simp only [Fj'] at h1 h2
          by_cases e : j = i <;> by_cases e' : j' = i
          · rw [e, e']
          · rw [if_pos e] at h1; rw [if_neg e'] at h2 hs2
            have h3 : F k b := by rw [hFk]; exact (own b).2 ⟨j', hj', hs2, h2⟩
            exact (hne (hm.apart N k b h1 h3)).elim
          · rw [if_neg e] at h1 hs1; rw [if_pos e'] at h2
            have h3 : F k b := by rw [hFk]; exact (own b).2 ⟨j, hj, hs1, h1⟩
            exact (hne (hm.apart N k b h2 h3)).elim
          · rw [if_neg e] at h1 hs1; rw [if_neg e'] at h2 hs2
            exact apart j j' b hj hj' hs1 hs2 h1 h2
        · have e2 : F' k b ↔ F k b ∨ F N b := by simp [F', Ne.symm hne]
          rw [e2, hFk, own]
          constructor
          · rintro (⟨j, h1, h2, h3⟩ | h)
            · have e : j ≠ i := fun e => by subst e; rw [hs] at h2; cases h2
              exact ⟨j, h1, by rw [hsk j h1, if_neg e]; exact h2, by simp only [Fj']; rw [if_neg e]; exact h3⟩
            · exact ⟨i, hi, by rw [hsk i hi, if_pos rfl], by simp [Fj']; exact h⟩
          · rintro ⟨j, h1, h2, h3⟩
            simp only [Fj'] at h3
            rw [hsk j h1] at h2
            by_cases e : j = i
            · rw [if_pos e] at h3; exact .inr h3
            · rw [if_neg e] at h3 h2; exact .inl ⟨j, h1, h2, h3⟩
      · rw [if_neg hgk] at hc
        have e2 : F' g = F g := by funext b; simp [F', Ne.symm hgN', Ne.symm hgk]
        rw [e2]
        exact hm.chunk g c hc
  · have n1 : g ≠ N := fun e => by subst e; simp [F'] at h1
    have n2 : g' ≠ N := fun e => by subst e; simp [F'] at h2
    rcases hin g b h1 with q1 | ⟨e1, q1⟩ <;> rcases hin g' b h2 with q2 | ⟨e2, q2⟩
    · exact hm.apart g g' b q1 q2
    · exact (n1 (hm.apart g N b q1 q2)).elim
    · exact (n2 (hm.apart g' N b q2 q1)).elim
    · rw [e1, e2]
  · have hg : (lset (lset mem k (.obj (.fam m bs sk' o'))) N .gone).length ≤ g := hg
    rw [hlen] at hg
    rcases hin g b hF with q | ⟨e, q⟩
    · exact hm.none g b hg q
    · omega
  · rcases hin g b hF with q | ⟨e, q⟩
    · exact hm.old g b q
    · exact hm.old N b q
  · show RelL β _ I w env a.tmps.toList
    rw [hlen]; exact hE
  · refine ⟨hW.os, hW.tape, hW.output, hW.size, hW.same, hW.frozen, hW.keep, fun b ⟨g, hb⟩ => ?_, hW.whole⟩
    rcases hin g b hb with q | ⟨e, q⟩
    · exact hW.ownd b ⟨g, q⟩
    · exact hW.ownd b ⟨N, q⟩
  · show fr.n ≤ _
    rw [hlen]; exact hN

/-- A field that holds a window up to the end of a vector: that window is a vector of its own. -/
theorem Ent.unwin {O : Type} [Objs O] {n : Nat} {env : List SV} {mem : List (Chunk O)} (h o g : Nat) {lo r m sz : Nat} {at_ : Nat → Nat → SV} {ss ss' : List Seg} (hget : lget mem h = some (.blk ss)) (hgv : lget mem g = some (.vec m sz at_))
    (hv : segGet ss o = some (.win g lo r (some r) sz)) (hset : segSet ss o (.vec mem.length) = some ss') (hlm : lo + r ≤ m) :
    Ent n ⟨env, mem⟩ ⟨env, lset (lset mem h (.blk ss')) g .gone ++ [.vec r sz fun x f => at_ (lo + x) f]⟩ := by
  rintro fr a w rfl ⟨hd, β, I, F, hm, hE, hW, hB, hN⟩
  have hm : MSat β I w F mem := hm
  have hE : RelL β mem.length I w env a.tmps.toList := hE
  have hN : fr.n ≤ mem.length := hN
  have hgetE : mem[h]? = some (.blk ss) := by rw [← lget_eq]; exact hget
  have hgvE : mem[g]? = some (.vec m sz at_) := by rw [← lget_eq]; exact hgv
  have hh : h < mem.length := lt_get hgetE
  have hg : g < mem.length := lt_get hgvE
  have hne : g ≠ h := fun e => by subst e; rw [hgetE] at hgvE; cases hgvE
  have hch := hm.chunk h _ hgetE
  have hcg := hm.chunk g _ hgvE
  simp only [CSat] at hch hcg
  obtain ⟨h1, h2, cs, T, h3, h4⟩ := hch
  obtain ⟨x, hx, hr⟩ := segGet_ok h4 hv
  simp only [Rel] at hr
  obtain ⟨_, hrn, ad, k, rfl, hrk, hlk, hkr, _, hk⟩ := hr
  obtain rfl : k = r := hkr r rfl
  obtain ⟨g1, g2, g3, g4, g5⟩ := hcg
  obtain ⟨hi, hadr, hil, hic, hin, hib⟩ : ∃ hi : HI, hi.adr = ad ∧ hi.len = k ∧ hi.cap = k ∧ (hi.nil = true → k = 0) ∧ (0 < k → hi.blk = (β g).blk ∧ hi.off = (β g).off + lo * sz) := by
    rcases Nat.eq_zero_or_pos k with h0 | h0
    · subst h0
      cases ad with
      | none => exact ⟨⟨0, 0, 0, 0, true, none⟩, rfl, rfl, rfl, fun _ => rfl, fun h => absurd h (Nat.lt_irrefl 0)⟩
      | some ad => exact ⟨⟨ad.block, ad.off, 0, 0, false, ad.spot⟩, rfl, rfl, rfl, fun _ => rfl, fun h => absurd h (Nat.lt_irrefl 0)⟩
    · obtain ⟨k1, k2⟩ := hk h0
      refine ⟨⟨(β g).blk, (β g).off + lo * sz, k, k, false, none⟩, ?_, rfl, rfl, nofun, fun _ => ⟨rfl, rfl⟩⟩
      rw [k2]
      simp [HI.adr]
  let N := mem.length
  let F' : Nat → Nat → Prop := fun j b => if j = N then 0 < k ∧ F g b else if j = g then False else F j b
  have hin' : ∀ j b, F' j b → if j = N then F g b else F j b := by
    intro j b hb
    simp only [F'] at hb
    split at hb
    · rw [if_pos ‹_›]; exact hb.2
    · rw [if_neg ‹_›]
      split at hb
      · exact hb.elim
      · exact hb
  have hlen : (lset (lset mem h (.blk ss')) g (.gone : Chunk O) ++ [(.vec k sz fun x f => at_ (lo + x) f : Chunk O)]).length = N + 1 := by simp [lset_eq, N]
  refine ⟨hd, fup β N hi, I, F', ⟨fun j c hc => ?_, fun j j' b e1 e2 => ?_, fun j b hj hF => ?_, fun j b hF => ?_, hm.wh⟩, ?_, ?_, fun j hj => ?_, ?_⟩
  · show CSat (fup β N hi) _ I w j (F' j) c
    rw [hlen]
    have hc : (lset (lset mem h (.blk ss')) g (.gone : Chunk O) ++ [(.vec k sz fun x f => at_ (lo + x) f : Chunk O)])[j]? = some c := hc
    by_cases hjN : j = N
    · subst hjN
      rw [List.getElem?_append_right (by simp [lset_eq, N]), show N - (lset (lset mem h (.blk ss')) g (.gone : Chunk O)).length = 0 by simp [lset_eq, N]] at hc
      simp only [List.getElem?_cons_zero, Option.some.injEq] at hc
      subst hc
      simp only [CSat, fup_eq]
      refine ⟨hil, hrn, Nat.le_of_eq hic.symm, fun h => by rw [hic]; exact hin h, ?_⟩
      rw [hic]
      split
      · rename_i h0
        subst h0
        intro b hb
        simp [F'] at hb
      · rename_i h0
        have hpos : 0 < k := Nat.pos_of_ne_zero h0
        obtain ⟨hib1, hib2⟩ := hib hpos
        rw [if_neg (by omega)] at g5
        obtain ⟨g5, cs', T', g6, g7, g8⟩ := g5
        have e1 : (lo + k) * sz ≤ (β g).cap * sz := Nat.mul_le_mul_right _ hlk
        rw [Nat.add_mul] at e1
        refine ⟨fun b => ?_, cs', T', by rw [hib1]; exact g6, by rw [hib2]; omega, fun i f hi' hf => ?_⟩
        · rw [hib1, ← g5]; simp [F', hpos]
        · obtain ⟨y, hy, hry, ho⟩ := g8 (lo + i) f (by omega) hf
          rw [Nat.add_mul, ← Nat.add_assoc] at hy
          exact ⟨y, by rw [hib2]; exact hy, hry.mono (fun _ hh => fup_lt hh) (Nat.le_succ _) (fun _ h => h) (fun _ _ => rfl), ho⟩
    · have hjl : j < mem.length := by
        have := lt_get hc
        rw [hlen] at this
        omega
      rw [List.getElem?_append_left (by simpa [lset_eq] using hjl), lset_eq, List.getElem?_set] at hc
      by_cases hjg : g = j
      · subst hjg
        rw [if_pos rfl, if_pos (by simpa [lset_eq] using hjl)] at hc
        simp only [Option.some.injEq] at hc
        subst hc
        intro b hb
        simp [F', hjN] at hb
      · rw [if_neg hjg, lset_eq, List.getElem?_set] at hc
        have e2 : F' j = F j := by funext b; simp [F', hjN, Ne.symm hjg]
        rw [e2]
        by_cases hjh : h = j
        · subst hjh
          rw [if_pos rfl, if_pos hh] at hc
          simp only [Option.some.injEq] at hc
          subst hc
          have eb : fup β N hi h = β h := fup_lt hh
          simp only [CSat, eb]
          refine ⟨h1, h2, cs, T, h3, ?_⟩
          have h4' := h4.mono (β' := fup β N hi) (N' := N + 1) (I' := I) (w' := w) (fun _ hh => fup_lt hh) (Nat.le_succ _) (fun _ h => h) (fun _ _ => rfl)
          have := segSet_ok (x := .slice ad k k) h4' hset (by
            simp only [Rel]
            refine ⟨Nat.lt_succ_self _, ?_⟩
            rw [fup_eq, hadr, hil, hic])
          have e : cs.setIfInBounds (0 + o) (.slice ad k k) = cs := by
            apply Array.ext_getElem?
            intro q
            rw [Array.getElem?_setIfInBounds]
            split
            · rename_i hq
              subst hq
              have hlt : 0 + o < cs.size := (Array.getElem?_eq_some_iff.1 hx).1
              rw [if_pos hlt]; exact hx.symm
            · rfl
          rw [e] at this
          exact this
        · rw [if_neg hjh] at hc
          exact (hm.chunk j c hc).mono hjl (fun _ hh => fup_lt hh) (Nat.le_succ _) (fun _ h => h) (fun _ _ => rfl)
  · have q1 := hin' j b e1
    have q2 := hin' j' b e2
    simp only [F'] at e1 e2
    by_cases hj : j = N <;> by_cases hj' : j' = N
    · rw [hj, hj']
    · rw [if_pos hj] at q1; rw [if_neg hj'] at q2 e2
      have := hm.apart g j' b q1 q2
      subst this
      rw [if_pos rfl] at e2
      exact e2.elim
    · rw [if_neg hj] at q1 e1; rw [if_pos hj'] at q2
      have := hm.apart g j b q2 q1
      subst this
      rw [if_pos rfl] at e1
      exact e1.elim
    · rw [if_neg hj] at q1; rw [if_neg hj'] at q2
      exact hm.apart j j' b q1 q2
  · have hj : (lset (lset mem h (.blk ss')) g (.gone : Chunk O) ++ [(.vec k sz fun x f => at_ (lo + x) f : Chunk O)]).length ≤ j := hj
    rw [hlen] at hj
    have := hin' j b hF
    rw [if_neg (by omega)] at this
    exact hm.none j b (by omega) this
  · have := hin' j b hF
    split at this
    · exact hm.old g b this
    · exact hm.old j b this
  · show RelL (fup β N hi) _ I w env a.tmps.toList
    rw [hlen]
    exact hE.mono (fun _ hh => fup_lt hh) (Nat.le_succ _) (fun _ h => h) (fun _ _ => rfl)
  · refine ⟨hW.os, hW.tape, hW.output, hW.size, hW.same, hW.frozen, hW.keep, fun b ⟨j, hb⟩ => ?_, hW.whole⟩
    have := hin' j b hb
    split at this
    · exact hW.ownd b ⟨g, this⟩
    · exact hW.ownd b ⟨j, this⟩
  · rw [fup_lt (Nat.lt_of_lt_of_le hj hN)]; exact hB j hj
  · show fr.n ≤ _
    rw [hlen]
    exact Nat.le_succ_of_le hN

end Go.V
