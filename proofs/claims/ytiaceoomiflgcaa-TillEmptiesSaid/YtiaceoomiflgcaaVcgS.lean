/-
  Objects: a memory of its own behind one pointer, shut away. Opening and shutting them.
-/
import Derived.Test.YtiaceoomiflgcaaVcgR
import Derived.Test.YtiaceoomiflgcaaVcgY
namespace Go.V

/-- 'ex': for some places of blocks; 'fam': objects, each at its own block; 'at_': an object that stands at a certain block. -/
inductive Ob where
  | mk (mem : List (Chunk Ob))
  | ex (o : (Nat → Nat) → Ob)
  | fam (n : Nat) (bs : Nat → Nat) (sk : Nat → Bool) (o : Nat → Ob)
  | at_ (g : Nat) (o : Ob)

def Ob.mem : Ob → List (Chunk Ob)
  | .mk m => m
  | _ => []

theorem lt_get {α : Type} {l : List α} {i : Nat} {x : α} (h : l[i]? = some x) : i < l.length := (List.getElem?_eq_some_iff.1 h).1

/-- With nothing asked of objects. -/
@[reducible] def triv (O : Type) : Objs O where
  sat _ _ _ _ _ := True
  mono _ _ _ := trivial
  congr _ _ := trivial
  gd _ := none

inductive OSat : Ob → Nat → World → (Nat → Prop) → (Nat → Prop) → Prop where
  | mk {mem : List (Chunk Ob)} {β : Nat → HI} {I : Nat → Prop} {w : World} {Fh : Nat → Nat → Prop} {F : Nat → Prop} {b : Nat}
      (chunk : ∀ h c, mem[h]? = some c → @CSat Ob (triv Ob) β mem.length I w h (Fh h) c)
      (objs : ∀ h o, mem[h]? = some (.obj o) → OSat o (β h).blk w I (Fh h))
      (apart : ∀ h h' b, Fh h b → Fh h' b → h = h') (none : ∀ h b, mem.length ≤ h → ¬ Fh h b)
      (pos : 0 < mem.length) (off : (β 0).plain) (blk : (β 0).blk = b) (own : ∀ k, F k ↔ ∃ h, Fh h k) : OSat (.mk mem) b w I F
  | ex {o : (Nat → Nat) → Ob} {b : Nat} {w : World} {I F : Nat → Prop} (bs : Nat → Nat) (h : OSat (o bs) b w I F) : OSat (.ex o) b w I F
  | fam {n : Nat} {bs : Nat → Nat} {sk : Nat → Bool} {o : Nat → Ob} {b : Nat} {w : World} {I F : Nat → Prop} {Fj : Nat → Nat → Prop} (objs : ∀ j, j < n → sk j = false → OSat (o j) (bs j) w I (Fj j))
      (apart : ∀ j j' k, j < n → j' < n → sk j = false → sk j' = false → Fj j k → Fj j' k → j = j') (own : ∀ k, F k ↔ ∃ j, j < n ∧ sk j = false ∧ Fj j k) : OSat (.fam n bs sk o) b w I F
  | at_ {g : Nat} {o : Ob} {b : Nat} {w : World} {I F : Nat → Prop} (e : b = g) (h : OSat o b w I F) : OSat (.at_ g o) b w I F

theorem OSat.mono {o : Ob} {b : Nat} {w : World} {I F : Nat → Prop} (h : OSat o b w I F) : ∀ {w' : World} {I' : Nat → Prop}, (∀ k, I k → I' k) →
    (∀ k, I k ∨ F k → w'.heap[k]? = w.heap[k]?) → OSat o b w' I' F := by
  induction h with
  | mk chunk objs apart none pos off blk own ih =>
    intro w' I' hI hw
    refine .mk (fun h c hc => @CSat.mono Ob (triv Ob) _ _ _ _ _ _ _ _ _ _ (lt_get hc) (fun _ _ => rfl) (Nat.le_refl _) hI (fun k hk => hw k (hk.imp id fun hF => (own k).2 ⟨h, hF⟩)) _ (chunk h c hc))
      (fun h o ho => ih h o ho hI fun k hk => hw k (hk.imp id fun hF => (own k).2 ⟨h, hF⟩)) apart none pos off blk own
  | ex bs h ih => exact fun hI hw => .ex bs (ih hI hw)
  | fam objs apart own ih => exact fun hI hw => .fam (fun j hj hs => ih j hj hs hI fun k hk => hw k (hk.imp id fun hF => (own k).2 ⟨j, hj, hs, hF⟩)) apart own
  | at_ e h ih => exact fun hI hw => .at_ e (ih hI hw)

theorem OSat.congr {o : Ob} {b : Nat} {w : World} {I F : Nat → Prop} (h : OSat o b w I F) : ∀ {F' : Nat → Prop}, (∀ k, F k ↔ F' k) → OSat o b w I F' := by
  induction h with
  | mk chunk objs apart none pos off blk own ih => exact fun hF => .mk chunk objs apart none pos off blk fun k => (hF k).symm.trans (own k)
  | ex bs h ih => exact fun hF => .ex bs (ih hF)
  | fam objs apart own ih => exact fun hF => .fam objs apart fun k => (hF k).symm.trans (own k)
  | at_ e h ih => exact fun hF => .at_ e (ih hF)

instance : Objs Ob where
  gd := gtab
  sat := OSat
  mono h hI hw := h.mono hI hw
  congr h hF := h.congr hF

theorem CSat.split {β : Nat → HI} {N : Nat} {I : Nat → Prop} {w : World} {h : Nat} {F : Nat → Prop} {c : Chunk Ob} :
    CSat β N I w h F c ↔ @CSat Ob (triv Ob) β N I w h F c ∧ ∀ o, c = .obj o → OSat o (β h).blk w I F := by
  cases c with
  | obj o =>
    constructor
    · intro hc
      exact ⟨⟨hc.1, trivial⟩, fun o' e => by cases e; exact hc.2⟩
    · intro hc
      exact ⟨hc.1.1, hc.2 o rfl⟩
  | _ => exact ⟨fun hc => ⟨hc, fun _ e => by cases e⟩, fun hc => hc.1⟩

/-- A call's result in another form. -/
theorem CallOK.ent {P : Program} {O : Type} [Objs O] {f : FuncId} {args : List SV} {mem : List (Chunk O)} {Q Q' : SV → List (Chunk O) → Prop} (h : CallOK P f args mem Q)
    (hq : ∀ r m, Q r m → ∃ r' m', Ent mem.length ⟨[r], m⟩ ⟨[r'], m'⟩ ∧ Q' r' m') : CallOK P f args mem Q' := by
  intro β I w F vs hm ha
  refine Calls.mono (h β I w F vs hm ha) ?_
  rintro e w' ⟨v, β', I', F', sv, m, rfl, h2, h3, h4, h5, h6, h7⟩
  obtain ⟨r', m', hent, hq'⟩ := hq _ _ h7
  have hs : Sat (⟨w, fun b => ∃ h, F h b, I, β, mem.length⟩ : Fr) (⟨[sv], m⟩ : St O) { tmps := #[v], defers := [] } w' :=
    ⟨rfl, β', I', F', h5, ⟨v, [], rfl, h6, rfl⟩, h2, h3, h4⟩
  obtain ⟨_, β2, I2, F2, k1, k2, k3, k4, k5⟩ := hent _ _ _ rfl hs
  have k2 : RelL β2 m'.length I2 w' [r'] [v] := k2
  simp only [RelL] at k2
  obtain ⟨y, ys, e, hr, _⟩ := k2
  cases e
  exact ⟨_, β2, I2, F2, r', m', rfl, k3, k4, k5, k1, hr, hq'⟩

/-- A function's arguments and memory in another form. -/
theorem CallOK.pre {P : Program} {O : Type} [Objs O] {f : FuncId} {args args' : List SV} {mem mem' : List (Chunk O)} {Q : SV → List (Chunk O) → Prop} (he : Ent mem.length ⟨args, mem⟩ ⟨args', mem'⟩)
    (h : CallOK P f args' mem' Q) : CallOK P f args mem Q := by
  intro β I w F vs hm ha
  have hs : Sat (⟨w, fun b => ∃ h, F h b, I, β, mem.length⟩ : Fr) (⟨args, mem⟩ : St O) { tmps := vs.toArray, defers := [] } w :=
    ⟨rfl, β, I, F, hm, by simpa using ha, Went.refl _ _ _, fun _ _ => rfl, Nat.le_refl _⟩
  obtain ⟨_, β2, I2, F2, k1, k2, k3, k4, k5⟩ := he _ _ _ rfl hs
  have k2 : RelL β2 mem'.length I2 w args' vs := by simpa using k2
  have k5 : mem.length ≤ mem'.length := k5
  refine Calls.mono (h β2 I2 w F2 vs k1 k2) ?_
  rintro e w' ⟨v, β', I', F', sv, m, rfl, h2, h3, h4, h5, h6, h7⟩
  refine ⟨v, β', I', F', sv, m, rfl, Went.trans k3 h2, fun h hh => (h3 h (Nat.lt_of_lt_of_le hh k5)).trans (k4 h hh), Nat.le_trans k5 h4, h5, h6, h7⟩

theorem HI.plain_ext {x y : HI} (hx : x.plain) (hy : y.plain) (h : x.blk = y.blk) : x = y := by
  obtain ⟨b, o, l, c, n, p⟩ := x
  obtain ⟨b', o', l', c', n', p'⟩ := y
  obtain ⟨h1, h2, h3, h4, h5⟩ := hx
  obtain ⟨k1, k2, k3, k4, k5⟩ := hy
  simp only at h h1 h2 h3 h4 h5 k1 k2 k3 k4 k5
  subst h h1 h2 h3 h4 h5 k1 k2 k3 k4 k5
  rfl

/-- An object is opened: its first chunk at its place, the others behind all. -/
theorem Ent.opn {n : Nat} {env : List SV} {mem lmem : List (Chunk Ob)} (h : Nat) (hget : lget mem h = some (.obj (.mk lmem))) :
    Ent n ⟨env, mem⟩ ⟨env, wback [h] (renM (h :: rangeN (lmem.length - 1) mem.length) lmem) mem⟩ := by
  rintro fr a w rfl ⟨hd, β, I, F, hm, hE, hW, hB, hN⟩
  have hm : MSat β I w F mem := hm
  have hE : RelL β mem.length I w env a.tmps.toList := hE
  have hN : fr.n ≤ mem.length := hN
  have hgetE : mem[h]? = some (.obj (.mk lmem)) := by rw [← lget_eq]; exact hget
  have hh : h < mem.length := lt_get hgetE
  have hc := hm.chunk h _ hgetE
  simp only [CSat] at hc
  obtain ⟨hoff, hc⟩ := hc
  have hc : OSat (.mk lmem) (β h).blk w I (F h) := hc
  generalize hbk : (β h).blk = bk at hc
  cases hc with
  | @mk _ β1 _ _ Fh _ _ chunk objs apart none pos off blk own =>
  have hM2 : MSat β1 I w Fh lmem := ⟨fun j c hc => CSat.split.2 ⟨chunk j c hc, fun o e => by subst e; exact objs j o hc⟩, apart, none,
    fun j b hb => hm.old h b ((own b).2 ⟨j, hb⟩), hm.wh⟩
  have hWW : Went w (fun b => ∃ g, g ∈ [h] ∧ F g b) I w (fun b => ∃ j, Fh j b) I :=
    ⟨rfl, rfl, rfl, Nat.le_refl _, fun _ _ _ => rfl, fun _ _ => rfl, fun _ h => h, fun b hb => .inl ⟨h, by simp, (own b).2 hb⟩, fun _ h => .inl h⟩
  obtain ⟨β', F', _, hM', hβ', hmlen, hW', _⟩ := hm.merge (hs := [h]) (by simp) (by simpa using hh) hWW hM2 pos fun j g e => by
    cases j with
    | zero =>
      simp only [lget, Option.some.injEq] at e
      subst e
      exact HI.plain_ext off hoff (blk.trans hbk.symm)
    | succ j => simp [lget] at e
  exact ⟨hd, β', I, F', hM', hE.mono hβ' hmlen (fun _ h => h) (fun _ _ => rfl), hW.trans hW', fun g hg => by rw [hβ' g (Nat.lt_of_lt_of_le hg hN)]; exact hB g hg, Nat.le_trans hN hmlen⟩

def headPlain {O : Type} : List (Chunk O) → Bool
  | .blk _ :: _ => true
  | .obj _ :: _ => true
  | _ => false

/-- Chunks are shut away as an object at the first one's place. -/
theorem Ent.cls {n : Nat} {env : List SV} {mem : List (Chunk Ob)} (h : Nat) (hs : List Nat) (lmem : List (Chunk Ob)) (hnd : nodupN (h :: hs) = true) (hp : headPlain lmem = true) (hle : MLe (h :: hs) mem (h :: hs) lmem) :
    Ent n ⟨env, mem⟩ ⟨env, lset (maskM hs mem) h (.obj (.mk lmem))⟩ := by
  rintro fr a w rfl ⟨hd, β, I, F, hm, hE, hW, hB, hN⟩
  have hm : MSat β I w F mem := hm
  have hE : RelL β mem.length I w env a.tmps.toList := hE
  have hN : fr.n ≤ mem.length := hN
  have hndp := nodupN_ok hnd
  obtain ⟨hnh, hndp'⟩ := List.nodup_cons.1 hndp
  obtain ⟨β1, F1, hσ, hM1, hF1, _⟩ := hm.ren hndp hle
  have hh : h < mem.length := hσ.lt 0 h rfl
  have hlen : (lset (maskM hs mem) h (.obj (.mk lmem))).length = mem.length := by simp [lset_eq, maskM_length]
  have hget : ∀ g, (lset (maskM hs mem) h (.obj (.mk lmem)))[g]? = if g = h then some (.obj (.mk lmem)) else if g ∈ hs ∧ g < mem.length then some .gone else mem[g]? := by
    intro g
    rw [lset_eq, List.getElem?_set, maskM_length, maskM_get]
    by_cases hg : g = h
    · subst hg; simp [hh]
    · simp [hg, Ne.symm hg]
  have hpos : 0 < lmem.length := by cases lmem with | nil => simp [headPlain] at hp | cons c l => simp
  have hpl0 : (β1 0).plain := by
    cases lmem with
    | nil => simp [headPlain] at hp
    | cons c l =>
      have := hM1.chunk 0 c rfl
      cases c with
      | blk ss => exact this.2.1
      | obj o => exact this.1
      | gone => simp [headPlain] at hp
      | vec => simp [headPlain] at hp
      | mset => simp [headPlain] at hp
  have hβ0 : β1 0 = β h := hσ.eq 0 h rfl
  have hF1' : ∀ j b, F1 j b → ∃ g, (g = h ∨ g ∈ hs) ∧ F g b := fun j b hb => by
    obtain ⟨g, e, hF⟩ := hF1 j b hb
    rw [lget_eq] at e
    exact ⟨g, by simpa using List.mem_of_getElem? e, hF⟩
  let F2 : Nat → Nat → Prop := fun g b => if g = h then ∃ j, F1 j b else g ∉ hs ∧ F g b
  refine ⟨hd, β, I, F2, ⟨fun g c hc => ?_, fun g g' b h1 h2 => ?_, fun g b hle hF => ?_, fun g b hF => ?_, hm.wh⟩, ?_, ?_, hB, ?_⟩
  · rw [hget] at hc
    show CSat β (lset (maskM hs mem) h (.obj (.mk lmem))).length I w g (F2 g) c
    rw [hlen]
    by_cases hg : g = h
    · subst hg
      rw [if_pos rfl] at hc
      simp only [Option.some.injEq] at hc
      subst hc
      refine ⟨hβ0 ▸ hpl0, ?_⟩
      refine OSat.mk (β := β1) (Fh := F1) (fun j c hc => (CSat.split.1 (hM1.chunk j c hc)).1) (fun j o ho => (CSat.split.1 (hM1.chunk j _ ho)).2 o rfl) hM1.apart hM1.none hpos hpl0 (by rw [hβ0]) fun k => ?_
      simp [F2]
    · rw [if_neg hg] at hc
      split at hc
      · rename_i hin
        simp only [Option.some.injEq] at hc
        subst hc
        intro b hb
        simp only [F2, if_neg hg] at hb
        exact hb.1 hin.1
      · rename_i hin
        have hlt : g < mem.length := lt_get hc
        have hn : g ∉ hs := fun h' => hin ⟨h', hlt⟩
        have e : F2 g = F g := by funext b; simp [F2, hg, hn]
        rw [e]
        exact hm.chunk g c hc
  · simp only [F2] at h1 h2
    by_cases hg : g = h <;> by_cases hg' : g' = h
    · rw [hg, hg']
    · rw [if_pos hg] at h1; rw [if_neg hg'] at h2
      obtain ⟨j, hj⟩ := h1
      obtain ⟨k, hk, hF⟩ := hF1' j b hj
      have := hm.apart k g' b hF h2.2
      subst this
      exact (hk.elim hg' h2.1).elim
    · rw [if_neg hg] at h1; rw [if_pos hg'] at h2
      obtain ⟨j, hj⟩ := h2
      obtain ⟨k, hk, hF⟩ := hF1' j b hj
      have := hm.apart k g b hF h1.2
      subst this
      exact (hk.elim hg h1.1).elim
    · rw [if_neg hg] at h1; rw [if_neg hg'] at h2
      exact hm.apart g g' b h1.2 h2.2
  · have hle : mem.length ≤ g := by
      have h0 : (lset (maskM hs mem) h (.obj (.mk lmem))).length ≤ g := hle
      rw [hlen] at h0; exact h0
    simp only [F2] at hF
    split at hF
    · omega
    · exact hm.none g b hle hF.2
  · simp only [F2] at hF
    split at hF
    · obtain ⟨j, hj⟩ := hF
      obtain ⟨k, _, hF⟩ := hF1' j b hj
      exact hm.old k b hF
    · exact hm.old g b hF.2
  · show RelL β (lset (maskM hs mem) h (.obj (.mk lmem))).length I w env a.tmps.toList
    rw [hlen]; exact hE
  · refine ⟨hW.os, hW.tape, hW.output, hW.size, hW.same, hW.frozen, hW.keep, fun b ⟨g, hb⟩ => ?_, hW.whole⟩
    simp only [F2] at hb
    split at hb
    · obtain ⟨j, hj⟩ := hb
      obtain ⟨k, _, hF⟩ := hF1' j b hj
      exact hW.ownd b ⟨k, hF⟩
    · exact hW.ownd b ⟨g, hb.2⟩
  · show fr.n ≤ (lset (maskM hs mem) h (.obj (.mk lmem))).length
    rw [hlen]; exact hN

/-! ### A vector of data becomes whole for ever -/
mutual
def frzV (h : Nat) (d : DV) : SV → SV
  | .vec g => (match Nat.beq g h with | true => .dv d | false => .vec g)
  | .agg l => .agg (frzL h d l)
  | .tup l => .tup (frzL h d l)
  | .fn f l => .fn f (frzL h d l)
  | .bfn f l => .bfn f (frzL h d l)
  | .mfn m v => .mfn m (frzV h d v)
  | .ifc t v => .ifc t (frzV h d v)
  | v => v
def frzL (h : Nat) (d : DV) : List SV → List SV
  | [] => []
  | v :: r => frzV h d v :: frzL h d r
end

mutual
theorem frz_rel {β : Nat → HI} {N : Nat} {I : Nat → Prop} {w : World} {h : Nat} {d : DV} (hd : ∀ x, Rel β N I w (.vec h) x → DRel I w d x) : ∀ {v x}, Rel β N I w v x → Rel β N I w (frzV h d v) x
  | .vec g, x, hr => by
    simp only [frzV]
    split
    · rename_i hb
      have := Nat.eq_of_beq_eq_true hb
      subst this
      simp only [Rel]
      exact hd x hr
    · exact hr
  | .agg l, x, hr => by simp only [frzV, Rel] at hr ⊢; obtain ⟨cs, h1, h2⟩ := hr; exact ⟨cs, h1, frz_relL hd h2⟩
  | .tup l, x, hr => by simp only [frzV, Rel] at hr ⊢; obtain ⟨cs, h1, h2⟩ := hr; exact ⟨cs, h1, frz_relL hd h2⟩
  | .fn f l, x, hr => by simp only [frzV, Rel] at hr ⊢; obtain ⟨cs, h1, h2⟩ := hr; exact ⟨cs, h1, frz_relL hd h2⟩
  | .bfn f l, x, hr => by simp only [frzV, Rel] at hr ⊢; obtain ⟨cs, h1, h2⟩ := hr; exact ⟨cs, h1, frz_relL hd h2⟩
  | .mfn t v, x, hr => by simp only [frzV, Rel] at hr ⊢; obtain ⟨y, h1, h2⟩ := hr; exact ⟨y, h1, frz_rel hd h2⟩
  | .ifc t v, x, hr => by simp only [frzV, Rel] at hr ⊢; obtain ⟨y, h1, h2⟩ := hr; exact ⟨y, h1, frz_rel hd h2⟩
  | .win _ _ _ _ _, x, hr => by simpa only [frzV] using hr
  | .junk, x, hr | .dv _, x, hr | .ptr _ _, x, hr | .pat _ _ _ _ _ _, x, hr | .pseq _ _ _ _ _, x, hr | .mp _, x, hr | .gp _, x, hr => by simpa only [frzV] using hr
theorem frz_relL {β : Nat → HI} {N : Nat} {I : Nat → Prop} {w : World} {h : Nat} {d : DV} (hd : ∀ x, Rel β N I w (.vec h) x → DRel I w d x) : ∀ {l xs}, RelL β N I w l xs → RelL β N I w (frzL h d l) xs
  | [], _, hr => by simpa only [frzL] using hr
  | v :: r, xs, hr => by
    simp only [frzL, RelL] at hr ⊢
    obtain ⟨y, ys, h1, h2, h3⟩ := hr
    exact ⟨y, ys, h1, frz_rel hd h2, frz_relL hd h3⟩
end

/-- A nil slice in a block's cell is seen as a vector of its own, without elements. -/
theorem Ent.nilvec {O : Type} [Objs O] {n : Nat} {env : List SV} {mem : List (Chunk O)} (h o sz : Nat) (at_ : Nat → Nat → SV) {ss ss' : List Seg} (hget : lget mem h = some (.blk ss))
    (hv : segGet ss o = some (.dv .nils)) (hset : segSet ss o (.vec mem.length) = some ss') : Ent n ⟨env, mem⟩ ⟨env, lset mem h (.blk ss') ++ [.vec 0 sz at_]⟩ := by
  rintro fr a w rfl ⟨hd, β, I, F, hm, hE, hW, hB, hN⟩
  have hm : MSat β I w F mem := hm
  have hE : RelL β mem.length I w env a.tmps.toList := hE
  have hN : fr.n ≤ mem.length := hN
  have hgetE : mem[h]? = some (.blk ss) := by rw [← lget_eq]; exact hget
  have hh : h < mem.length := lt_get hgetE
  let hi : HI := ⟨0, 0, 0, 0, true, none⟩
  have hlen : (lset mem h (.blk ss')).length = mem.length := by simp [lset_eq]
  have hadd : MSat (fup β mem.length hi) I w (fup F mem.length fun _ => False) (mem ++ [.vec 0 sz at_]) := by
    refine hm.add (Nat.le_refl _) (fun _ _ => rfl) (fun b hb => hb.elim) ?_
    simp only [CSat, fup_eq]
    exact ⟨rfl, Nat.zero_le _, Nat.zero_le _, fun _ => rfl, fun b hb => hb⟩
  have hgetA : lget (mem ++ [.vec 0 sz at_]) h = some (.blk ss) := by
    rw [lget_eq, List.getElem?_append_left hh]; exact hgetE
  have hfin : MSat (fup β mem.length hi) I w (fup F mem.length fun _ => False) (lset (mem ++ [.vec 0 sz at_]) h (.blk ss')) := by
    refine hadd.upd hgetA rfl (fun _ _ => rfl) ?_
    have hc := hadd.chunk h _ (by rw [← lget_eq]; exact hgetA)
    simp only [CSat] at hc ⊢
    obtain ⟨h1, h2, cs, T, h3, h4⟩ := hc
    refine ⟨h1, h2, cs, T, h3, ?_⟩
    obtain ⟨x, hx, hr⟩ := segGet_ok h4 hv
    simp only [Rel, DRel] at hr
    subst hr
    have := segSet_ok (x := .slice none 0 0) h4 hset (by
      simp only [Rel, fup_eq, List.length_append, List.length_singleton]
      exact ⟨Nat.lt_succ_self _, rfl⟩)
    have e : cs.setIfInBounds (0 + o) (.slice none 0 0) = cs := by
      apply Array.ext_getElem?
      intro k
      rw [Array.getElem?_setIfInBounds]
      split
      · rename_i hk
        subst hk
        have hlt : 0 + o < cs.size := (Array.getElem?_eq_some_iff.1 hx).1
        rw [if_pos hlt]; exact hx.symm
      · rfl
    rw [e] at this
    exact this
  have e : lset (mem ++ [.vec 0 sz at_]) h (.blk ss') = lset mem h (.blk ss') ++ [.vec 0 sz at_] := by
    rw [lset_eq, lset_eq, List.set_append_left _ _ hh]
  rw [e] at hfin
  refine ⟨hd, _, I, _, hfin, ?_, ?_, fun k hk => ?_, ?_⟩
  · show RelL _ (lset mem h (.blk ss') ++ [Chunk.vec 0 sz at_]).length I w env a.tmps.toList
    rw [List.length_append, hlen]
    exact hE.mono (fun _ hh => fup_lt hh) (Nat.le_add_right _ _) (fun _ h => h) (fun _ _ => rfl)
  · exact hW.trans (Went.add (fun b hb => hm.none _ b (Nat.le_refl _) hb) rfl rfl rfl (Nat.le_refl _) (fun _ _ => rfl) (fun b hb => hb.elim) fun _ => rfl)
  · rw [fup_lt (Nat.lt_of_lt_of_le hk hN)]; exact hB k hk
  · show fr.n ≤ (lset mem h (.blk ss') ++ [Chunk.vec 0 sz at_]).length
    rw [List.length_append, hlen]; omega

end Go.V
