/-
  Calls, loops and steps aside, as they are used in walks.
-/
import Derived.Test.YtiaceoomiflgcaaVcgS
namespace Go.V
variable {O : Type} [Objs O]

theorem RelL.split {β : Nat → HI} {N : Nat} {I : Nat → Prop} {w : World} : ∀ {s s' : List SV} {l l' : List Value}, l.length = s.length → RelL β N I w (s ++ s') (l ++ l') → RelL β N I w s l ∧ RelL β N I w s' l'
  | [], s', [], l', _, h => ⟨rfl, h⟩
  | x :: s, s', y :: l, l', hl, h => by
    simp only [List.cons_append, RelL] at h
    obtain ⟨z, zs, e, h1, h2⟩ := h
    simp only [List.cons.injEq] at e
    obtain ⟨rfl, rfl⟩ := e
    obtain ⟨h3, h4⟩ := RelL.split (by simpa using hl) h2
    exact ⟨⟨_, _, rfl, h1, h3⟩, h4⟩
  | [], _, _ :: _, _, hl, _ => by simp at hl
  | _ :: _, _, [], _, hl, _ => by simp at hl

/-- A call of a function that is contracted for the caller's whole memory. -/
theorem call_whole {P P' : Program} (hP : P' = P) {f : FuncId} {d : Option Nat} {xs : List X} {s : St O} {K : St O → Prop} {args : List SV} {Q : SV → List (Chunk O) → Prop}
    (hc : codeFn P f = true) (hcall : CallOK P f args s.mem Q) (hargs : xs.map s.ev = args) (hK : ∀ r m, Q r m → s.mem.length ≤ m.length → K (St.put ⟨s.env, m⟩ d r)) : CallVC P' f d xs s K := by
  subst hP
  refine ⟨hc, fun fr a w vs hX next hnext => ?_⟩
  obtain ⟨hd, β, I, F, hM, hE, hW, hB, hN, hV⟩ := hX
  rw [hargs] at hV
  refine Calls.mono (hcall β I w F vs hM hV) ?_
  rintro e w' ⟨v, β', I', F', r, m, rfl, hW2, hβ, hml, hM2, hr, hq⟩
  refine ⟨v, rfl, hnext _ _ _ (hK r m hq hml) ?_⟩
  refine mkSat (s := ⟨s.env, m⟩) (β := β') (I := I') (F := F') hd hM2 ?_ (hW.trans hW2) (fun h hh => by rw [hβ h (Nat.lt_of_lt_of_le hh hN)]; exact hB h hh) (Nat.le_trans hN hml) hr
  exact hE.mono hβ hml hW2.keep fun b hI => hW2.same b (hM.whole b hI) fun ⟨h, hF⟩ => (hM.old h b hF).2 hI

theorem call_at {P P' : Program} (hP : P' = P) {f : FuncId} {d : Option Nat} {xs : List X} {s : St O} {K : St O → Prop} {args : List SV} {lmem : List (Chunk O)} {Q : SV → List (Chunk O) → Prop} (hs : List Nat)
    (hc : codeFn P f = true) (hcall : CallOK P f args lmem Q) (hnd : nodupN hs = true) (hmem : MLe hs s.mem hs lmem) (hargs : LLe hs (xs.map s.ev) args)
    (hK : ∀ r m, Q r m → lmem.length ≤ m.length → K (St.put ⟨s.env, wback hs (renM (hs ++ rangeN (m.length - lmem.length) s.mem.length) m) s.mem⟩ d (renV (hs ++ rangeN (m.length - lmem.length) s.mem.length) r))) :
    CallVC P' f d xs s K := by
  subst hP
  exact call_rule hs hc hcall hnd hmem hargs hK

/-- A function that touches no memory: what it tells. -/
theorem call_pure {P P' : Program} (hP : P' = P) {f : FuncId} {d : Option Nat} {xs : List X} {s : St O} {K : St O → Prop} {args : List SV} {Q : SV → Prop}
    (hc : codeFn P f = true) (hcall : CallOK (O := O) P f args [] fun r m => Q r ∧ m = []) (hargs : LLe [] (xs.map s.ev) args) (hK : ∀ r, Q r → K (St.put s d (renV [] r))) : CallVC P' f d xs s K := by
  refine call_at hP [] hc hcall rfl trivial hargs ?_
  rintro r m ⟨hq, rfl⟩ _
  have e : (⟨s.env, wback [] (renM (O := O) [] []) s.mem⟩ : St O) = s := by simp [renM, wback]
  show K (St.put ⟨s.env, wback [] (renM (O := O) [] []) s.mem⟩ d (renV [] r))
  rw [e]
  exact hK r hq

/-- The only chunk, an object, is opened. -/
theorem Ent.opn1 {n : Nat} {env : List SV} {lmem : List (Chunk Ob)} : Ent n ⟨env, [.obj (.mk lmem)]⟩ ⟨env, lmem⟩ := by
  rintro fr a w rfl ⟨hd, β, I, F, hm, hE, hW, hB, hN⟩
  have hm : MSat β I w F [Chunk.obj (Ob.mk lmem)] := hm
  have hE : RelL β 1 I w env a.tmps.toList := hE
  have hN : fr.n ≤ 1 := hN
  have hc := hm.chunk 0 _ rfl
  simp only [CSat] at hc
  obtain ⟨hoff, hc⟩ := hc
  have hc : OSat (Ob.mk lmem) (β 0).blk w I (F 0) := hc
  generalize hbk : (β 0).blk = bk at hc
  cases hc with
  | @mk _ β1 _ _ Fh _ _ chunk objs apart none pos off blk own =>
  have h0 : β1 0 = β 0 := HI.plain_ext off hoff (blk.trans hbk.symm)
  refine ⟨hd, β1, I, Fh, ⟨fun j c hc => CSat.split.2 ⟨chunk j c hc, fun o e => by subst e; exact objs j o hc⟩, apart, none, fun j b hb => hm.old 0 b ((own b).2 ⟨j, hb⟩), hm.wh⟩, ?_, ?_, ?_, ?_⟩
  · exact hE.mono (fun h hh => by rw [Nat.lt_one_iff.1 hh]; exact h0) pos (fun _ h => h) (fun _ _ => rfl)
  · exact hW.trans ⟨rfl, rfl, rfl, Nat.le_refl _, fun _ _ _ => rfl, fun _ _ => rfl, fun _ h => h, fun b ⟨j, hb⟩ => .inl ⟨0, (own b).2 ⟨j, hb⟩⟩, fun _ h => .inl h⟩
  · intro h hh
    have : h = 0 := by omega
    subst this
    rw [h0]; exact hB 0 hh
  · exact Nat.le_trans hN pos

/-- All chunks are shut away as one object; what is told holds no other handle. -/
theorem Ent.cls1 {n : Nat} {env env' : List SV} {mem : List (Chunk Ob)} (hs : List Nat) (lmem : List (Chunk Ob)) (hnd : nodupN (0 :: hs) = true) (hp : headPlain lmem = true) (hle : MLe (0 :: hs) mem (0 :: hs) lmem)
    (henv : LLe [0] env env') (hn : idN n 0 [0] = true := by rfl) : Ent n ⟨env, mem⟩ ⟨env', [.obj (.mk lmem)]⟩ := by
  refine (Ent.cls 0 hs lmem hnd hp hle).trans (Ent.ren [0] hn rfl ?_ henv)
  have hpos : 0 < mem.length := by
    obtain ⟨h1, h2⟩ := hle.get
    cases lmem with
    | nil => simp [headPlain] at hp
    | cons c l =>
      obtain ⟨h, c', e, hc, _⟩ := h2 0 c rfl
      simp only [lget, Option.some.injEq] at e
      subst e
      exact lt_get hc
  have e : lget (lset (maskM hs mem) 0 (Chunk.obj (Ob.mk lmem))) 0 = some (Chunk.obj (Ob.mk lmem)) := by
    rw [lget_eq, lset_eq, List.getElem?_set_self (by rw [maskM_length]; exact hpos)]
  simp only [MLe]
  rw [e]
  exact ⟨rfl, trivial⟩

/-! ### Loops, with the arithmetic under a name -/
def ELe : List SV → List SV → Prop
  | [], [] => True
  | v :: l, u :: r => (match u with | .junk => True | u => v = u) ∧ ELe l r
  | _, _ => False

theorem ELe.rel {β : Nat → HI} {N : Nat} {I : Nat → Prop} {w : World} : ∀ {l r : List SV} {xs : List Value}, ELe l r → RelL β N I w l xs → RelL β N I w r xs
  | [], [], _, _, hr => hr
  | v :: l, u :: r, xs, h, hr => by
    simp only [RelL] at hr ⊢
    obtain ⟨y, ys, rfl, h1, h2⟩ := hr
    refine ⟨y, ys, rfl, ?_, ELe.rel h.2 h2⟩
    have h3 := h.1
    split at h3
    · simp only [Rel]
    · subst h3; exact h1
  | [], _ :: _, _, h, _ => h.elim
  | _ :: _, [], _, h, _ => h.elim

theorem Ent.env {n : Nat} {env env' : List SV} {mem : List (Chunk O)} (h : ELe env env') : Ent n ⟨env, mem⟩ ⟨env', mem⟩ := by
  rintro fr a w rfl ⟨hd, β, I, F, hm, hE, hW, hB, hN⟩
  exact ⟨hd, β, I, F, hm, h.rel hE, hW, hB, hN⟩

theorem loop_at {P P' : Program} (hm : P.follows .mixedOrders = true) (hP : P' = P) {A : Ar} (hA : A = std) {n : Nat} {b : IC} {s : St O} {K : Ex → St O → Prop} {ι : Type} (Inv : ι → St O) (μ : ι → Nat) (i0 : ι)
    (h0 : Ent n s (Inv i0))
    (round : ∀ i, vC A P' n b (Inv i) fun e s' => (match e with
      | .normal => ∃ j, μ j < μ i ∧ Ent n s' (Inv j)
      | .exit l => K (.exit l) s'
      | .goto l => K (.goto l) s'
      | .ret => K .ret s')) : LoopVC P' n b s K := by
  subst hA hP
  exact loop_rule hm Inv μ i0 h0 round

/-- A function that touches none of the caller's memory: what it lays itself is let go. -/
theorem CallOK.drop {P : Program} {f : FuncId} {args : List SV} {Q : SV → Prop} (h : CallOK (O := O) P f args [] fun r _ => ∃ r', VLe [] r r' ∧ Q r') : CallOK (O := O) P f args [] fun r m => Q r ∧ m = [] := by
  refine h.ent fun r m ⟨r', hv, hq⟩ => ⟨r', [], Ent.ren [] rfl rfl trivial ⟨hv, trivial⟩, hq, rfl⟩

/-! ### Values that say less -/
inductive DLe : DV → DV → Prop where
  | same (d : DV) : DLe d d
  | nil (sz : Nat) (g : Nat → Nat → DV) : DLe .nils (.seq 0 sz g)
  | emp (sz : Nat) (g : Nat → Nat → DV) : DLe .emp (.seq 0 sz g)
  | seq {n sz : Nat} {g g' : Nat → Nat → DV} (h : ∀ i f, i < n → f < sz → DLe (g i f) (g' i f)) : DLe (.seq n sz g) (.seq n sz g')

mutual
inductive WLe : SV → SV → Prop where
  | same (v : SV) : WLe v v
  | junk (v : SV) : WLe v .junk
  | dv {d d' : DV} (h : DLe d d') : WLe (.dv d) (.dv d')
  | tup {l l' : List SV} (h : WLes l l') : WLe (.tup l) (.tup l')
  | agg {l l' : List SV} (h : WLes l l') : WLe (.agg l) (.agg l')
inductive WLes : List SV → List SV → Prop where
  | nil : WLes [] []
  | cons {v u : SV} {l r : List SV} (h : WLe v u) (k : WLes l r) : WLes (v :: l) (u :: r)
end

theorem DLe.rel {I : Nat → Prop} {w : World} {d d' : DV} (h : DLe d d') : ∀ {x : Value}, DRel I w d x → DRel I w d' x := by
  induction h with
  | same d => exact fun h => h
  | nil sz g =>
    intro x hx
    simp only [DRel] at hx ⊢
    subst hx
    exact ⟨none, 0, by simp, Nat.zero_le _, Nat.zero_le _, fun h => absurd h (Nat.lt_irrefl 0)⟩
  | emp sz g =>
    intro x hx
    simp only [DRel] at hx ⊢
    obtain ⟨a, rfl⟩ := hx
    exact ⟨a, 0, rfl, Nat.zero_le _, Nat.zero_le _, fun h => absurd h (Nat.lt_irrefl 0)⟩
  | seq _ ih =>
    intro x hx
    simp only [DRel] at hx ⊢
    obtain ⟨a, cap, hv, hn, hc, h⟩ := hx
    refine ⟨a, cap, hv, hn, hc, fun h0 => ?_⟩
    obtain ⟨b, o, cs, T, fz, h1, h2, h3, h4, h5⟩ := h h0
    exact ⟨b, o, cs, T, fz, h1, h2, h3, h4, fun i f hi hf => ih i f hi hf (h5 i f hi hf)⟩

mutual
theorem WLe.rel {β : Nat → HI} {N : Nat} {I : Nat → Prop} {w : World} : ∀ {v u : SV}, WLe v u → ∀ {x : Value}, Rel β N I w v x → Rel β N I w u x
  | _, _, .same _, _, h => h
  | _, _, .junk _, _, _ => by simp only [Rel]
  | _, _, .dv hd, _, h => by simp only [Rel] at h ⊢; exact hd.rel h
  | _, _, .tup hl, _, h => by simp only [Rel] at h ⊢; obtain ⟨cs, h1, h2⟩ := h; exact ⟨cs, h1, WLes.rel hl h2⟩
  | _, _, .agg hl, _, h => by simp only [Rel] at h ⊢; obtain ⟨cs, h1, h2⟩ := h; exact ⟨cs, h1, WLes.rel hl h2⟩
theorem WLes.rel {β : Nat → HI} {N : Nat} {I : Nat → Prop} {w : World} : ∀ {l r : List SV}, WLes l r → ∀ {xs : List Value}, RelL β N I w l xs → RelL β N I w r xs
  | _, _, .nil, _, h => h
  | _, _, .cons h1 h2, _, h => by
    simp only [RelL] at h ⊢
    obtain ⟨y, ys, e, k1, k2⟩ := h
    exact ⟨y, ys, e, WLe.rel h1 k1, WLes.rel h2 k2⟩
end

/-- All chunks are let go. -/
theorem Ent.none_ {v u : SV} {mem : List (Chunk O)} (h : VLe [] v u) : Ent 0 ⟨[v], mem⟩ ⟨[u], []⟩ := Ent.ren [] rfl rfl trivial ⟨h, trivial⟩

theorem bc_true {b : Bool} {p q : Unit → Prop} (h : b = true) (k : p ()) : bc b p q := by subst h; exact k
theorem bc_false {b : Bool} {p q : Unit → Prop} (h : b = false) (k : q ()) : bc b p q := by subst h; exact k

end Go.V
