/-
  One state in another's place, by other names of its handles. Functions and their calls.
-/
import Derived.Test.YtiaceoomiflgcaaVcgQ
namespace Go.V
variable {O : Type} [Objs O]

/-- What a value may stand for: itself under other names, or nothing known. -/
def VLe (σ : List Nat) (v : SV) : SV → Prop
  | .junk => True
  | u => v = renV σ u

def LLe (σ : List Nat) : List SV → List SV → Prop
  | [], [] => True
  | v :: l, u :: r => VLe σ v u ∧ LLe σ l r
  | _, _ => False

def SegsLe (σ : List Nat) : List Seg → List Seg → Prop
  | [], [] => True
  | .one v :: l, .one u :: r => VLe σ v u ∧ SegsLe σ l r
  | .arr n sz a :: l, .arr n' sz' b :: r => (n = n' ∧ sz = sz' ∧ ∀ i f, i < n → f < sz → VLe σ (a i f) (b i f)) ∧ SegsLe σ l r
  | _, _ => False

def CLe (σ : List Nat) (c : Chunk O) : Chunk O → Prop
  | .gone => True
  | .blk r => (match c with | .blk l => SegsLe σ l r | _ => False)
  | .vec n' sz' b => (match c with | .vec n sz a => n = n' ∧ sz = sz' ∧ ∀ i f, i < n → f < sz → VLe σ (a i f) (b i f) | _ => False)
  | .mset n has => c = .mset n has
  | .obj o => c = .obj o

/-- The chunks at the names' places. -/
def MLe (σ : List Nat) (m : List (Chunk O)) : List Nat → List (Chunk O) → Prop
  | [], [] => True
  | h :: hs, u :: r => (match lget m h with | some c => CLe σ c u | none => False) ∧ MLe σ m hs r
  | _, _ => False

def nodupN : List Nat → Bool
  | [] => true
  | x :: l => !(memN x l) && nodupN l

/-- The first n names are their own. -/
def idN : Nat → Nat → List Nat → Bool
  | 0, _, _ => true
  | _ + 1, _, [] => false
  | n + 1, k, x :: l => Nat.beq x k && idN n (k + 1) l

theorem nodupN_ok : ∀ {l : List Nat}, nodupN l = true → l.Nodup
  | [], _ => by simp
  | x :: l, h => by
    simp only [nodupN, Bool.and_eq_true, Bool.not_eq_true'] at h
    exact List.nodup_cons.2 ⟨fun hm => by rw [memN_iff.2 hm] at h; exact Bool.noConfusion h.1, nodupN_ok h.2⟩

theorem idN_ok : ∀ {n k : Nat} {l : List Nat}, idN n k l = true → ∀ j, j < n → lget l j = some (k + j)
  | 0, _, _, _, j, hj => absurd hj (Nat.not_lt_zero j)
  | _ + 1, _, [], h, _, _ => by simp [idN] at h
  | n + 1, k, x :: l, h, j, hj => by
    simp only [idN, Bool.and_eq_true] at h
    cases j with
    | zero => simp [lget, Nat.eq_of_beq_eq_true h.1]
    | succ j =>
      rw [lget, idN_ok h.2 j (by omega)]
      congr 1; omega

section
variable {β : Nat → HI} {N : Nat} {I : Nat → Prop} {w : World} {σ : List Nat} {β' : Nat → HI} {N' : Nat}

theorem VLe.rel (hσ : Names σ β N β' N') {v u : SV} (h : VLe σ v u) {x : Value} (hr : Rel β N I w v x) : Rel β' N' I w u x := by
  cases u with
  | junk => simp only [Rel]
  | _ => simp only [VLe] at h; exact (ren_rel hσ).1 (h ▸ hr)

theorem SegsLe.sat (hσ : Names σ β N β' N') {cs : Array Value} : ∀ {l r : List Seg} {off : Nat}, SegsLe σ l r → SegsSat β N I w cs off l → SegsSat β' N' I w cs off r
  | [], [], _, _, hs => hs
  | .one v :: l, .one u :: r, _, h, hs => by
    obtain ⟨⟨x, hx, hr⟩, hs⟩ := hs
    exact ⟨⟨x, hx, h.1.rel hσ hr⟩, SegsLe.sat hσ h.2 hs⟩
  | .arr n sz a :: l, .arr n' sz' b :: r, _, h, hs => by
    obtain ⟨⟨rfl, rfl, h1⟩, h2⟩ := h
    exact ⟨fun i f hi hf => let ⟨x, hx, hr⟩ := hs.1 i f hi hf; ⟨x, hx, (h1 i f hi hf).rel hσ hr⟩, SegsLe.sat hσ h2 hs.2⟩
  | [], _ :: _, _, h, _ => by simp [SegsLe] at h
  | _ :: _, [], _, h, _ => by simp [SegsLe] at h
  | .one _ :: _, .arr _ _ _ :: _, _, h, _ => by simp [SegsLe] at h
  | .arr _ _ _ :: _, .one _ :: _, _, h, _ => by simp [SegsLe] at h

theorem CLe.sat (hσ : Names σ β N β' N') {j h : Nat} (e : lget σ j = some h) {F : Nat → Prop} {c u : Chunk O} (hu : u ≠ .gone) (hc : CLe σ c u) (hs : CSat β N I w h F c) : CSat β' N' I w j F u := by
  cases u with
  | gone => exact (hu rfl).elim
  | blk r =>
    simp only [CLe] at hc
    split at hc
    · simp only [CSat, hσ.eq _ _ e] at hs ⊢
      obtain ⟨h1, h2, cs, T, h3, h4⟩ := hs
      exact ⟨h1, h2, cs, T, h3, hc.sat hσ h4⟩
    · exact hc.elim
  | vec n' sz' b =>
    simp only [CLe] at hc
    split at hc
    · obtain ⟨rfl, rfl, hv⟩ := hc
      simp only [CSat, hσ.eq _ _ e] at hs ⊢
      obtain ⟨h1, h2, h3, h4, h5⟩ := hs
      refine ⟨h1, h2, h3, h4, ?_⟩
      split
      · rename_i h0; simpa only [h0, if_true] using h5
      · rename_i h0
        simp only [h0, if_false] at h5
        obtain ⟨k1, cs, T, k2, k3, k4⟩ := h5
        exact ⟨k1, cs, T, k2, k3, fun i f hi hf => let ⟨x, hx, hr, h1⟩ := k4 i f hi hf; ⟨x, hx, (hv i f hi hf).rel hσ hr, h1⟩⟩
    · exact hc.elim
  | mset n has =>
    simp only [CLe] at hc
    subst hc
    simp only [CSat, hσ.eq _ _ e] at hs ⊢
    exact hs
  | obj o =>
    simp only [CLe] at hc
    subst hc
    simp only [CSat, hσ.eq _ _ e] at hs ⊢
    exact hs

theorem LLe.rel (hσ : Names σ β N β' N') : ∀ {l r : List SV} {xs : List Value}, LLe σ l r → RelL β N I w l xs → RelL β' N' I w r xs
  | [], [], _, _, hr => by simpa only [RelL] using hr
  | v :: l, u :: r, xs, h, hr => by
    simp only [RelL] at hr ⊢
    obtain ⟨y, ys, rfl, h1, h2⟩ := hr
    exact ⟨y, ys, rfl, h.1.rel hσ h1, LLe.rel hσ h.2 h2⟩
  | [], _ :: _, _, h, _ => h.elim
  | _ :: _, [], _, h, _ => h.elim
end

omit [Objs O] in
theorem MLe.get {σ : List Nat} {m : List (Chunk O)} : ∀ {hs : List Nat} {r : List (Chunk O)}, MLe σ m hs r → r.length = hs.length ∧ ∀ j u, r[j]? = some u → ∃ h c, lget hs j = some h ∧ m[h]? = some c ∧ CLe σ c u
  | [], [], _ => by simp
  | h :: hs, u :: r, hm => by
    simp only [MLe] at hm
    obtain ⟨h1, h2⟩ := hm
    obtain ⟨h3, h4⟩ := MLe.get h2
    refine ⟨by simp [h3], fun j v hj => ?_⟩
    cases j with
    | zero =>
      simp only [List.getElem?_cons_zero, Option.some.injEq] at hj
      subst hj
      cases hc : lget m h with
      | none => rw [hc] at h1; exact h1.elim
      | some c => rw [hc] at h1; exact ⟨h, c, rfl, by rw [← lget_eq]; exact hc, h1⟩
    | succ j => simpa [lget] using h4 j v (by simpa using hj)
  | [], _ :: _, h => by simp [MLe] at h
  | _ :: _, [], h => by simp [MLe] at h

theorem lget_nodup {l : List Nat} (hn : l.Nodup) {i j h : Nat} (hi : lget l i = some h) (hj : lget l j = some h) : i = j := by
  rw [lget_eq] at hi hj
  obtain ⟨h1, h2⟩ := List.getElem?_eq_some_iff.1 hi
  obtain ⟨h3, h4⟩ := List.getElem?_eq_some_iff.1 hj
  exact (List.getElem_inj hn).1 (h2.trans h4.symm)

/-- The memory under other names: what is named is kept, the rest is let go. -/
theorem MSat.ren {β : Nat → HI} {I : Nat → Prop} {w : World} {F : Nat → Nat → Prop} {mem mem' : List (Chunk O)} (hm : MSat β I w F mem) {σ : List Nat} (hnd : σ.Nodup) (hle : MLe σ mem σ mem') :
    ∃ β' F', Names σ β mem.length β' mem'.length ∧ MSat β' I w F' mem' ∧ (∀ j b, F' j b → ∃ h, lget σ j = some h ∧ F h b) ∧ (∀ j h, lget σ j = some h → mem'[j]? ≠ some .gone → ∀ b, F h b → F' j b) := by
  obtain ⟨hlen, hget⟩ := hle.get
  have hlt : ∀ j h, lget σ j = some h → h < mem.length := by
    intro j h hj
    have hj' : j < mem'.length := by
      rw [lget_eq] at hj
      rw [hlen]
      exact (List.getElem?_eq_some_iff.1 hj).1
    obtain ⟨h', c, h1, h2, _⟩ := hget j mem'[j] (by simp [hj'])
    rw [hj] at h1; cases h1
    exact (List.getElem?_eq_some_iff.1 h2).1
  let β' : Nat → HI := fun j => match lget σ j with | some h => β h | .none => β 0
  let F' : Nat → Nat → Prop := fun j b => mem'[j]? ≠ some .gone ∧ ∃ h, lget σ j = some h ∧ F h b
  have hσ : Names σ β mem.length β' mem'.length := ⟨hlen, hlt, fun j h e => by simp only [β', e]⟩
  refine ⟨β', F', hσ, ⟨fun j u hj => ?_, fun j j' b h1 h2 => ?_, fun j b hj h1 => ?_, fun j b h1 => ?_, hm.wh⟩, fun j b h => h.2, fun j h hj hg b hF => ⟨hg, h, hj, hF⟩⟩
  · obtain ⟨h, c, h1, h2, hc⟩ := hget j u hj
    have hcs := hm.chunk h c h2
    cases u with
    | gone => simp only [CSat]; exact fun b hb => hb.1 hj
    | _ =>
      have e : F' j = F h := by
        funext b
        simp only [F', hj, h1, eq_iff_iff]
        constructor
        · rintro ⟨_, h', e, hF⟩; cases e; exact hF
        · intro hF; exact ⟨by simp, h, rfl, hF⟩
      rw [e]
      exact hc.sat hσ h1 (by simp) hcs
  · obtain ⟨_, h, e1, hF1⟩ := h1
    obtain ⟨_, h', e2, hF2⟩ := h2
    have := hm.apart h h' b hF1 hF2
    subst this
    exact lget_nodup hnd e1 e2
  · obtain ⟨_, h, e1, _⟩ := h1
    rw [lget_eq] at e1
    have := (List.getElem?_eq_some_iff.1 e1).1
    omega
  · obtain ⟨_, h, _, hF⟩ := h1
    exact hm.old h b hF

theorem Ent.ren {n : Nat} {s s' : St O} (σ : List Nat) (hid : idN n 0 σ = true) (hnd : nodupN σ = true) (hm : MLe σ s.mem σ s'.mem) (he : LLe σ s.env s'.env) : Ent n s s' := by
  rintro fr a w rfl ⟨hd, β, I, F, hM, hE, hW, hB, hN⟩
  obtain ⟨β', F', hσ, hM', hF', _⟩ := hM.ren (nodupN_ok hnd) hm
  have hid' : ∀ j, j < fr.n → lget σ j = some j := fun j hj => by simpa using idN_ok hid j hj
  refine ⟨hd, β', I, F', hM', he.rel hσ hE, ?_, fun h hh => ?_, ?_⟩
  · refine ⟨hW.os, hW.tape, hW.output, hW.size, hW.same, hW.frozen, hW.keep, fun b ⟨j, hb⟩ => ?_, hW.whole⟩
    obtain ⟨h, _, hF⟩ := hF' j b hb
    exact hW.ownd b ⟨h, hF⟩
  · rw [hσ.eq h h (hid' h hh)]
    exact hB h hh
  · rw [hσ.len]
    rcases Nat.eq_zero_or_pos fr.n with h0 | h0
    · omega
    · have h1 := hid' (fr.n - 1) (by omega)
      rw [lget_eq] at h1
      have := (List.getElem?_eq_some_iff.1 h1).1
      omega

/-! ### A function's body -/
inductive RV where
  | t (i : Nat)
  | c (i : Nat) (n : Option Nat)

def compR (P : Program) : List ResultVar → Option (List RV)
  | [] => some []
  | .tmp t :: r => (match compR P r with | some l => some (.t t :: l) | none => none)
  | .cell a t :: r => (match ldT P t, compR P r with | some n, some l => some (.c a n :: l) | _, _ => none)

def resL (s : St O) : List RV → Option (List SV)
  | [] => some []
  | .t i :: r => (match resL s r with | some l => some (s.ev (.t i) :: l) | none => none)
  | .c i none :: r => (match lget s.env i with
    | some (.ptr h o) => (match lget s.mem h with
      | some (.blk ss) => (match segGet ss o, resL s r with | some v, some l => some (v :: l) | _, _ => none)
      | _ => none)
    | _ => none)
  | .c i (some m) :: r => (match lget s.env i with
    | some (.ptr h o) => (match lget s.mem h with
      | some (.blk ss) => (match segTake ss o m, resL s r with | some v, some l => some (.agg v :: l) | _, _ => none)
      | _ => none)
    | _ => none)

def ret1 : List SV → SV
  | [v] => v
  | l => .tup l

def bodyK (rs : List RV) (Q : SV → List (Chunk O) → Prop) : Ex → St O → Prop
  | .normal, s => (match resL s rs with | some l => Q (ret1 l) s.mem | none => False)
  | .ret, s => (match resL s rs with | some l => Q (ret1 l) s.mem | none => False)
  | _, _ => False

def junks : Nat → List SV
  | 0 => []
  | n + 1 => .junk :: junks n

/-- A function of the program in short form. -/
structure Fn (P : Program) (f : FuncId) (nt : Nat) (ic : IC) (rs : List RV) : Prop where
  ex : ∃ fn c, P.funcs[f]? = some fn ∧ fn.body = some c ∧ compC P c = ic ∧ compR P fn.results.toList = some rs ∧ fn.ntmps = nt

def resOne (tmps : Array Value) : ResultVar → Sem Value
  | .tmp t => pure (tmps.getD t undef)
  | .cell a t => do loadVar t (← asAddr (tmps.getD a undef))

theorem results_eq (fn : Func) (tmps : Array Value) : results fn tmps = (do
    let vs ← fn.results.mapM (resOne tmps)
    pure (if h : vs.size = 1 then vs[0] else .tuple vs)) := by
  unfold results
  congr 2

theorem results_run {P : Program} {w : World} {a : Act} {s : St O} {β : Nat → HI} {I : Nat → Prop} {F : Nat → Nat → Prop} (hm : MSat β I w F s.mem) (he : RelL β s.mem.length I w s.env a.tmps.toList) :
    ∀ {l : List ResultVar} {rs : List RV} {sl : List SV}, compR P l = some rs → resL s rs = some sl →
      ∃ vs, RelL β s.mem.length I w sl vs ∧ (l.mapM (resOne a.tmps)).run P w = .ok vs w
  | [], rs, sl, h1, h2 => by
    simp only [compR, Option.some.injEq] at h1
    subst h1
    simp only [resL, Option.some.injEq] at h2
    subst h2
    exact ⟨[], rfl, by simp⟩
  | .tmp t :: r, rs, sl, h1, h2 => by
    simp only [compR] at h1
    split at h1
    · rename_i l hl
      simp only [Option.some.injEq] at h1
      subst h1
      simp only [resL] at h2
      split at h2
      · rename_i l' hl'
        simp only [Option.some.injEq] at h2
        subst h2
        obtain ⟨vs, hvs, hrun⟩ := results_run hm he hl hl'
        refine ⟨a.eval (.tmp t) :: vs, ⟨_, _, rfl, ev_rel he (.tmp t), hvs⟩, ?_⟩
        simp only [List.mapM_cons, resOne, Sem.run_bind, Sem.run_pure, Result.andThen_ok]
        simp only [hrun, Result.andThen_ok]
        rfl
      · cases h2
    · cases h1
  | .cell ad t :: r, rs, sl, h1, h2 => by
    simp only [compR] at h1
    split at h1
    · rename_i n l hn hl
      simp only [Option.some.injEq] at h1
      subst h1
      have key : ∀ {h o}, lget s.env ad = some (.ptr h o) → a.tmps.getD ad undef = .pointer (some ⟨(β h).blk, (β h).off + o, none⟩) := by
        intro h o hx
        obtain ⟨x, hx', hr⟩ := he.get hx
        simp only [Rel] at hr
        have : a.tmps[ad]? = some x := by simpa using hx'
        simp [Array.getD_eq_getD_getElem?, this, hr.2]
      cases n with
      | none =>
        simp only [resL] at h2
        split at h2
        · rename_i h o hx
          split at h2
          · rename_i ss hch
            split at h2
            · rename_i v l' hv hl'
              simp only [Option.some.injEq] at h2
              subst h2
              obtain ⟨vs, hvs, hrun⟩ := results_run hm he hl hl'
              have hcs := lget_chunk hm hch
              simp only [CSat] at hcs
              obtain ⟨_, ⟨hoff, _⟩, cs, T, hb, hss⟩ := hcs
              obtain ⟨u, hu, hr⟩ := segGet_ok hss hv
              refine ⟨u :: vs, ⟨_, _, rfl, hr, hvs⟩, ?_⟩
              have hld := run_load1 (P := P) (w := w) (a := ⟨(β h).blk, (β h).off + o, none⟩) (v := u) hn (by rw [cell_of hb, hoff]; exact hu)
              have hA : (asAddr (a.tmps.getD ad undef)).run P w = .ok ⟨(β h).blk, (β h).off + o, none⟩ w := by rw [key hx]; rfl
              simp only [List.mapM_cons, show resOne a.tmps (.cell ad t) = (do loadVar t (← asAddr (a.tmps.getD ad undef))) from rfl, Sem.run_bind, hA, Sem.run_pure, Result.andThen_ok, hld, hrun]
            · cases h2
          · cases h2
        · cases h2
      | some m =>
        simp only [resL] at h2
        split at h2
        · rename_i h o hx
          split at h2
          · rename_i ss hch
            split at h2
            · rename_i v l' hv hl'
              simp only [Option.some.injEq] at h2
              subst h2
              obtain ⟨vs, hvs, hrun⟩ := results_run hm he hl hl'
              have hcs := lget_chunk hm hch
              simp only [CSat] at hcs
              obtain ⟨_, ⟨hoff, _⟩, cs, T, hb, hss⟩ := hcs
              obtain ⟨xs, hlen, hr, hcs⟩ := segTake_ok hss hv
              refine ⟨.agg xs.toArray :: vs, ⟨_, _, rfl, by simp only [Rel]; exact ⟨xs, rfl, hr⟩, hvs⟩, ?_⟩
              have hld := run_loadN (P := P) (w := w) (a := ⟨(β h).blk, (β h).off + o, none⟩) hn hlen fun j v hj => by rw [add_addr, cell_of hb, hoff, Nat.zero_add]; exact hcs j v hj
              have hA : (asAddr (a.tmps.getD ad undef)).run P w = .ok ⟨(β h).blk, (β h).off + o, none⟩ w := by rw [key hx]; rfl
              simp only [List.mapM_cons, show resOne a.tmps (.cell ad t) = (do loadVar t (← asAddr (a.tmps.getD ad undef))) from rfl, Sem.run_bind, hA, Sem.run_pure, Result.andThen_ok, hld, hrun]
            · cases h2
          · cases h2
        · cases h2
    · cases h1

theorem ret1_rel {β : Nat → HI} {N : Nat} {I : Nat → Prop} {w : World} : ∀ {sl : List SV} {vs : List Value}, RelL β N I w sl vs →
    Rel β N I w (ret1 sl) (if h : vs.toArray.size = 1 then vs.toArray[0] else .tuple vs.toArray)
  | [], vs, h => by
    simp only [RelL] at h
    subst h
    simp only [ret1, Rel]
    exact ⟨[], rfl, rfl⟩
  | [v], vs, h => by
    simp only [RelL] at h
    obtain ⟨y, ys, rfl, hy, rfl⟩ := h
    simpa [ret1] using hy
  | u :: v :: r, vs, h => by
    have hl := h.length
    have h1 : vs.toArray.size ≠ 1 := by simp [hl]
    simp only [ret1, Rel, h1, dif_neg, not_false_eq_true]
    exact ⟨vs, rfl, h⟩

theorem junks_rel {β : Nat → HI} {N : Nat} {I : Nat → Prop} {w : World} : ∀ n, RelL β N I w (junks n) (List.replicate n undef)
  | 0 => rfl
  | n + 1 => ⟨undef, List.replicate n undef, rfl, by simp only [Rel], junks_rel n⟩

/-- A body's conditions make the function's contract, between a step aside ahead of it, and one behind it. -/
theorem fn_rule3 {P : Program} (hmx : P.follows .mixedOrders = true) {f : FuncId} {nt : Nat} {ic ic' : IC} {rs : List RV} (hf : Fn P f nt ic rs) (hst : strip ic' = ic) {args args1 : List SV} {mem mem1 : List (Chunk O)} {Q : SV → List (Chunk O) → Prop}
    (he : Ent mem.length ⟨args, mem⟩ ⟨args1, mem1⟩) (hlen : args1.length = args.length)
    (h : vC std P mem.length ic' ⟨args1 ++ junks (nt - args1.length), mem1⟩ (bodyK rs fun r m => ∃ r' m', Ent mem.length ⟨[r], m⟩ ⟨[r'], m'⟩ ∧ Q r' m')) : CallOK P f args mem Q := by
  obtain ⟨fn, c, hfn, hb, rfl, hrs, rfl⟩ := hf.ex
  intro β I w F vs hm hargs
  let fr : Fr := ⟨w, fun b => ∃ h, F h b, I, β, mem.length⟩
  have hvl : vs.length = args.length := hargs.length
  have hs0 : Sat fr (⟨args, mem⟩ : St O) { tmps := vs.toArray, defers := [] } w :=
    ⟨rfl, β, I, F, hm, by simpa using hargs, Went.refl _ _ _, fun _ _ => rfl, Nat.le_refl _⟩
  have hs : Sat fr (⟨args1 ++ junks (fn.ntmps - args1.length), mem1⟩ : St O) { tmps := vs.toArray ++ Array.replicate (fn.ntmps - vs.toArray.size) undef, defers := [] } w := by
    obtain ⟨_, β1, I1, F1, k1, k2, k3, k4, k5⟩ := he fr _ w rfl hs0
    have k2 : RelL β1 mem1.length I1 w args1 vs := by simpa using k2
    refine ⟨rfl, β1, I1, F1, k1, ?_, k3, k4, k5⟩
    simp only [Array.toList_append, Array.toList_replicate, List.size_toArray, hvl, ← hlen]
    exact k2.append (junks_rel _)
  refine calls_of_wp hfn hb (wp_mono (vC_sound' hmx mem.length c ic' _ _ hst.symm h fr _ w rfl hs) ?_)
  rintro e a' w' ⟨ex, s', rfl, hk, hs'⟩
  have fin : (∃ l, resL s' rs = some l ∧ ∃ r' m', Ent mem.length ⟨[ret1 l], s'.mem⟩ ⟨[r'], m'⟩ ∧ Q r' m') → a'.defers = [] ∧ ∃ v, (results fn a'.tmps).run P w' = .ok v w' ∧
      (∃ v' β' I' F' sv mem', Ending.returned v = .returned v' ∧ Went w (fun b => ∃ h, F h b) I w' (fun b => ∃ h, F' h b) I' ∧ (∀ h, h < mem.length → β' h = β h) ∧ mem.length ≤ mem'.length ∧ MSat β' I' w' F' mem' ∧
        Rel β' mem'.length I' w' sv v' ∧ Q sv mem') := by
    rintro ⟨l, hl, r', m', hent, hq⟩
    obtain ⟨hd, β', I', F', hm', he', hw', hb', hn'⟩ := hs'
    obtain ⟨xs, hxs, hrun⟩ := results_run (P := P) hm' he' hrs hl
    have hs2 : Sat fr (⟨[ret1 l], s'.mem⟩ : St O) { tmps := #[if h : xs.toArray.size = 1 then xs.toArray[0] else .tuple xs.toArray], defers := [] } w' :=
      ⟨rfl, β', I', F', hm', ⟨_, [], rfl, ret1_rel hxs, rfl⟩, hw', hb', hn'⟩
    obtain ⟨_, β2, I2, F2, k1, k2, k3, k4, k5⟩ := hent fr _ w' rfl hs2
    have k2 : RelL β2 m'.length I2 w' [r'] [if h : xs.toArray.size = 1 then xs.toArray[0] else .tuple xs.toArray] := k2
    simp only [RelL] at k2
    obtain ⟨y, ys, e, hr, _⟩ := k2
    cases e
    refine ⟨hd, _, ?_, _, β2, I2, F2, r', m', rfl, k3, k4, k5, k1, hr, hq⟩
    rw [results_eq]
    simp only [Sem.run_bind, Array.mapM_eq_mapM_toList, Sem.run_map, hrun]
    rfl
  cases ex with
  | normal =>
    simp only [Ex.toExit, bodyPost]
    refine fin ?_
    simp only [bodyK] at hk
    split at hk
    · rename_i l hl; exact ⟨l, hl, hk⟩
    · exact hk.elim
  | ret =>
    simp only [Ex.toExit, bodyPost]
    refine fin ?_
    simp only [bodyK] at hk
    split at hk
    · rename_i l hl; exact ⟨l, hl, hk⟩
    · exact hk.elim
  | exit i => exact hk.elim
  | goto l => exact hk.elim

theorem fn_rule2 {P : Program} (hmx : P.follows .mixedOrders = true) {f : FuncId} {nt : Nat} {ic : IC} {rs : List RV} (hf : Fn P f nt ic rs) {args args1 : List SV} {mem mem1 : List (Chunk O)} {Q : SV → List (Chunk O) → Prop}
    (he : Ent mem.length ⟨args, mem⟩ ⟨args1, mem1⟩) (hlen : args1.length = args.length)
    (h : vC std P mem.length ic ⟨args1 ++ junks (nt - args1.length), mem1⟩ (bodyK rs fun r m => ∃ r' m', Ent mem.length ⟨[r], m⟩ ⟨[r'], m'⟩ ∧ Q r' m')) : CallOK P f args mem Q := by
  refine fn_rule3 hmx hf ?_ he hlen h
  obtain ⟨fn, c, _, _, rfl, _⟩ := hf.ex
  exact strip_compC c

/-- A body's conditions make the function's contract. -/
theorem fn_rule {P : Program} (hmx : P.follows .mixedOrders = true) {f : FuncId} {nt : Nat} {ic : IC} {rs : List RV} (hf : Fn P f nt ic rs) {args : List SV} {mem : List (Chunk O)} {Q : SV → List (Chunk O) → Prop}
    (h : vC std P mem.length ic ⟨args ++ junks (nt - args.length), mem⟩ (bodyK rs Q)) : CallOK P f args mem Q := by
  obtain ⟨fn, c, hfn, hb, rfl, hrs, rfl⟩ := hf.ex
  intro β I w F vs hm hargs
  let fr : Fr := ⟨w, fun b => ∃ h, F h b, I, β, mem.length⟩
  have hlen : vs.length = args.length := hargs.length
  have hs : Sat fr (⟨args ++ junks (fn.ntmps - args.length), mem⟩ : St O) { tmps := vs.toArray ++ Array.replicate (fn.ntmps - vs.toArray.size) undef, defers := [] } w := by
    refine ⟨rfl, β, I, F, hm, ?_, Went.refl _ _ _, fun _ _ => rfl, Nat.le_refl _⟩
    simp only [Array.toList_append, Array.toList_replicate, List.size_toArray, hlen]
    exact hargs.append (junks_rel _)
  refine calls_of_wp hfn hb (wp_mono (vC_sound hmx mem.length c _ _ h fr _ w rfl hs) ?_)
  rintro e a' w' ⟨ex, s', rfl, hk, hs'⟩
  have fin : (∃ l, resL s' rs = some l ∧ Q (ret1 l) s'.mem) → a'.defers = [] ∧ ∃ v, (results fn a'.tmps).run P w' = .ok v w' ∧
      (∃ v' β' I' F' sv mem', Ending.returned v = .returned v' ∧ Went w (fun b => ∃ h, F h b) I w' (fun b => ∃ h, F' h b) I' ∧ (∀ h, h < mem.length → β' h = β h) ∧ mem.length ≤ mem'.length ∧ MSat β' I' w' F' mem' ∧
        Rel β' mem'.length I' w' sv v' ∧ Q sv mem') := by
    rintro ⟨l, hl, hq⟩
    obtain ⟨hd, β', I', F', hm', he', hw', hb', hn'⟩ := hs'
    obtain ⟨xs, hxs, hrun⟩ := results_run (P := P) hm' he' hrs hl
    refine ⟨hd, _, ?_, _, β', I', F', ret1 l, s'.mem, rfl, hw', hb', hn', hm', ret1_rel hxs, hq⟩
    rw [results_eq]
    simp only [Sem.run_bind, Array.mapM_eq_mapM_toList, Sem.run_map, hrun]
    rfl
  cases ex with
  | normal =>
    simp only [Ex.toExit, bodyPost]
    refine fin ?_
    simp only [bodyK] at hk
    split at hk
    · rename_i l hl; exact ⟨l, hl, hk⟩
    · exact hk.elim
  | ret =>
    simp only [Ex.toExit, bodyPost]
    refine fin ?_
    simp only [bodyK] at hk
    split at hk
    · rename_i l hl; exact ⟨l, hl, hk⟩
    · exact hk.elim
  | exit i => exact hk.elim
  | goto l => exact hk.elim

/-- The same, with the arithmetic and the program under names: for a reckoning that must not look into them. -/
theorem fn_walk {P : Program} (hmx : P.follows .mixedOrders = true) {f : FuncId} {nt : Nat} {ic : IC} {rs : List RV} (hf : Fn P f nt ic rs) {args : List SV} {mem : List (Chunk O)} {Q : SV → List (Chunk O) → Prop}
    (h : ∀ (A : Ar) (P' : Program), A = std → P' = P → ∀ Q', Q' = Q → vC A P' mem.length ic ⟨args ++ junks (nt - args.length), mem⟩ (bodyK rs Q')) : CallOK P f args mem Q :=
  fn_rule hmx hf (h std P rfl rfl Q rfl)

/-! ### Calls -/
def rangeN : Nat → Nat → List Nat
  | 0, _ => []
  | n + 1, k => k :: rangeN n (k + 1)

/-- The callee's chunks, back at their places; new ones behind. -/
def wback : List Nat → List (Chunk O) → List (Chunk O) → List (Chunk O)
  | [], l, m => m ++ l
  | _ :: _, [], m => m
  | h :: hs, c :: l, m => wback hs l (lset m h c)

def renM (σ : List Nat) : List (Chunk O) → List (Chunk O)
  | [] => []
  | c :: l => renC σ c :: renM σ l

omit [Objs O] in
theorem renM_get {σ : List Nat} : ∀ {l : List (Chunk O)} {j : Nat}, (renM σ l)[j]? = (l[j]?).map (renC σ)
  | [], j => by simp [renM]
  | c :: l, 0 => by simp [renM]
  | c :: l, j + 1 => by simp [renM, renM_get]

omit [Objs O] in
theorem renM_length {σ : List Nat} : ∀ (l : List (Chunk O)), (renM σ l).length = l.length
  | [] => rfl
  | c :: l => by simp [renM, renM_length l]

theorem rangeN_get : ∀ (n k j : Nat), (rangeN n k)[j]? = if j < n then some (k + j) else none
  | 0, k, j => by simp [rangeN]
  | n + 1, k, 0 => by simp [rangeN]
  | n + 1, k, j + 1 => by
    simp only [rangeN, List.getElem?_cons_succ, rangeN_get n (k + 1) j, Nat.add_lt_add_iff_right]
    split
    · congr 1; omega
    · rfl

theorem rangeN_length : ∀ (n k : Nat), (rangeN n k).length = n
  | 0, _ => rfl
  | n + 1, k => by simp [rangeN, rangeN_length n]

omit [Objs O] in
/-- What lies where, behind a call. -/
theorem wback_get : ∀ {hs : List Nat} {l m : List (Chunk O)}, hs.Nodup → hs.length ≤ l.length → (∀ h ∈ hs, h < m.length) →
    (wback hs l m).length = m.length + (l.length - hs.length) ∧
    (∀ (j h : Nat), hs[j]? = some h → (wback hs l m)[h]? = l[j]?) ∧
    (∀ h : Nat, h ∉ hs → h < m.length → (wback hs l m)[h]? = m[h]?) ∧
    (∀ j : Nat, hs.length ≤ j → (wback hs l m)[m.length + (j - hs.length)]? = l[j]?)
  | [], l, m, _, _, _ => by
    simp only [wback, List.length_append, List.length_nil, Nat.sub_zero, List.getElem?_nil, reduceCtorEq, false_implies, implies_true, true_and, List.not_mem_nil, not_false_eq_true, true_implies, Nat.zero_le]
    refine ⟨fun h hh => ?_, fun j => ?_⟩
    · rw [List.getElem?_append_left hh]
    · rw [List.getElem?_append_right (by omega)]
      congr 1; omega
  | h :: hs, [], m, _, hl, _ => by simp at hl
  | h :: hs, c :: l, m, hnd, hl, hlt => by
    obtain ⟨hh, hnd⟩ := List.nodup_cons.1 hnd
    have hlen : (lset m h c).length = m.length := by simp [lset_eq]
    obtain ⟨h1, h2, h3, h4⟩ := wback_get (hs := hs) (l := l) (m := lset m h c) hnd (by simpa using hl) (fun g hg => by rw [hlen]; exact hlt g (by simp [hg]))
    rw [hlen] at h1 h3 h4
    simp only [wback]
    refine ⟨by rw [h1]; simp, fun j g hj => ?_, fun g hg hlt' => ?_, fun j hj => ?_⟩
    · cases j with
      | zero =>
        simp only [List.getElem?_cons_zero, Option.some.injEq] at hj
        subst hj
        rw [h3 h hh (hlt h (by simp)), lset_eq, List.getElem?_set_self (hlt h (by simp))]
        rfl
      | succ j => exact h2 j g (by simpa using hj)
    · simp only [List.mem_cons, not_or] at hg
      rw [h3 g hg.2 hlt', lset_eq, List.getElem?_set_ne (Ne.symm hg.1)]
    · cases j with
      | zero => simp at hj
      | succ j =>
        have := h4 j (by simpa using hj)
        simpa using this

/-- A part of the memory as a memory of its own. -/
theorem MSat.part {β : Nat → HI} {I : Nat → Prop} {w : World} {F : Nat → Nat → Prop} {mem lmem : List (Chunk O)} (hm : MSat β I w F mem) {hs : List Nat} (hnd : hs.Nodup) (hle : MLe hs mem hs lmem) :
    ∃ β1 F1, Names hs β mem.length β1 lmem.length ∧ MSat β1 I w F1 lmem ∧ (∀ j b, F1 j b → ∃ h, lget hs j = some h ∧ F h b) := by
  obtain ⟨β1, F1, h1, h2, h3, _⟩ := hm.ren hnd hle
  exact ⟨β1, F1, h1, h2, h3⟩

theorem Went.own {w w' : World} {F G I F' I' : Nat → Prop} (h : Went w F I w' F' I') (hFG : ∀ b, F b → G b) : Went w G I w' F' I' :=
  ⟨h.os, h.tape, h.output, h.size, fun b hb hG => h.same b hb fun hF => hG (hFG b hF), h.frozen, h.keep, fun b hb => (h.ownd b hb).imp (hFG b) id, fun b hb => (h.whole b hb).imp id (Or.imp (hFG b) id)⟩

/-- A memory in which some chunks have been worked on apart: they lie at their places again, new ones behind. -/
theorem MSat.merge {β β2 : Nat → HI} {I I' : Nat → Prop} {w w' : World} {F F2 : Nat → Nat → Prop} {mem m : List (Chunk O)} {hs : List Nat} (hM : MSat β I w F mem) (hndp : hs.Nodup)
    (hlt : ∀ h ∈ hs, h < mem.length) (hW2 : Went w (fun b => ∃ h, h ∈ hs ∧ F h b) I w' (fun b => ∃ h, F2 h b) I') (hM2 : MSat β2 I' w' F2 m) (hle : hs.length ≤ m.length)
    (hβ : ∀ j h, lget hs j = some h → β2 j = β h) :
    ∃ β' F', Names (hs ++ rangeN (m.length - hs.length) mem.length) β' (wback hs (renM (hs ++ rangeN (m.length - hs.length) mem.length) m) mem).length β2 m.length ∧
      MSat β' I' w' F' (wback hs (renM (hs ++ rangeN (m.length - hs.length) mem.length) m) mem) ∧ (∀ h, h < mem.length → β' h = β h) ∧
      mem.length ≤ (wback hs (renM (hs ++ rangeN (m.length - hs.length) mem.length) m) mem).length ∧ Went w (fun b => ∃ h, F h b) I w' (fun b => ∃ h, F' h b) I' ∧ (∀ b, I b → w'.heap[b]? = w.heap[b]?) := by
  -- the caller's naming, behind the call
  let k := m.length - hs.length
  let τ : List Nat := hs ++ rangeN k mem.length
  have hτlen : τ.length = m.length := by simp only [τ, List.length_append, rangeN_length, k]; omega
  have hτ1 : ∀ j, j < hs.length → lget τ j = lget hs j := fun j hj => by rw [lget_eq, lget_eq]; exact List.getElem?_append_left hj
  have hτ2 : ∀ j, hs.length ≤ j → j < m.length → lget τ j = some (mem.length + (j - hs.length)) := fun j hj hj' => by
    rw [lget_eq]
    simp only [τ]
    rw [List.getElem?_append_right hj, rangeN_get, if_pos (by omega)]
  let β' : Nat → HI := fun h => if h < mem.length then β h else β2 (h - mem.length + hs.length)
  let F' : Nat → Nat → Prop := fun h b => (∃ j, lget τ j = some h ∧ F2 j b) ∨ (h ∉ hs ∧ h < mem.length ∧ F h b)
  obtain ⟨wl, wj, wo, wn⟩ := wback_get (hs := hs) (l := renM τ m) (m := mem) hndp (by rw [renM_length]; omega) hlt
  rw [renM_length] at wl
  have hmlen : (wback hs (renM τ m) mem).length = mem.length + k := by rw [wl]
  have hτ : Names τ β' (wback hs (renM τ m) mem).length β2 m.length := by
    refine ⟨hτlen.symm, fun j h e => ?_, fun j h e => ?_⟩
    · rcases Nat.lt_or_ge j hs.length with hj | hj
      · rw [hτ1 j hj] at e
        have := hlt h (List.mem_of_getElem? (by rw [lget_eq] at e; exact e))
        omega
      · have hjm : j < m.length := by
          rw [lget_eq] at e; rw [← hτlen]; exact (List.getElem?_eq_some_iff.1 e).1
        rw [hτ2 j hj hjm] at e
        cases e; omega
    · rcases Nat.lt_or_ge j hs.length with hj | hj
      · rw [hτ1 j hj] at e
        rw [hβ j h e]
        simp only [β', if_pos (hlt h (List.mem_of_getElem? (by rw [lget_eq] at e; exact e)))]
      · have hjm : j < m.length := by
          rw [lget_eq] at e; rw [← hτlen]; exact (List.getElem?_eq_some_iff.1 e).1
        rw [hτ2 j hj hjm] at e
        cases e
        simp only [β', if_neg (Nat.not_lt.2 (Nat.le_add_right _ _))]
        congr 1; omega
  have hτnd : ∀ {i j h}, lget τ i = some h → lget τ j = some h → i = j := by
    intro i j h hi hj
    have hi' : i < m.length := by rw [lget_eq] at hi; rw [← hτlen]; exact (List.getElem?_eq_some_iff.1 hi).1
    have hj' : j < m.length := by rw [lget_eq] at hj; rw [← hτlen]; exact (List.getElem?_eq_some_iff.1 hj).1
    rcases Nat.lt_or_ge i hs.length with h1 | h1 <;> rcases Nat.lt_or_ge j hs.length with h2 | h2
    · rw [hτ1 i h1] at hi; rw [hτ1 j h2] at hj; exact lget_nodup hndp hi hj
    · rw [hτ1 i h1] at hi; rw [hτ2 j h2 hj'] at hj
      have := hlt h (List.mem_of_getElem? (by rw [lget_eq] at hi; exact hi)); cases hj; omega
    · rw [hτ2 i h1 hi'] at hi; rw [hτ1 j h2] at hj
      have := hlt h (List.mem_of_getElem? (by rw [lget_eq] at hj; exact hj)); cases hi; omega
    · rw [hτ2 i h1 hi'] at hi; rw [hτ2 j h2 hj'] at hj
      cases hi; simp only [Option.some.injEq] at hj; omega
  have hτmem : ∀ {j h}, lget τ j = some h → h ∈ hs ∨ mem.length ≤ h := by
    intro j h e
    rcases Nat.lt_or_ge j hs.length with hj | hj
    · rw [hτ1 j hj, lget_eq] at e; exact .inl (List.mem_of_getElem? e)
    · have hjm : j < m.length := by rw [lget_eq] at e; rw [← hτlen]; exact (List.getElem?_eq_some_iff.1 e).1
      rw [hτ2 j hj hjm] at e; cases e; exact .inr (Nat.le_add_right _ _)
  have hkeepI : ∀ b, I b → w'.heap[b]? = w.heap[b]? := fun b hI => hW2.same b (hM.whole b hI) fun hF => by
    obtain ⟨h, _, hF⟩ := hF
    exact (hM.old h b hF).2 hI
  have hkeepF : ∀ h b, h ∉ hs → F h b → w'.heap[b]? = w.heap[b]? := fun h b hn hF => hW2.same b (hM.old h b hF).1 fun hF' => by
    obtain ⟨g, hg, hF'⟩ := hF'
    exact hn (hM.apart h g b hF hF' ▸ hg)
  have hsep : ∀ j h b, F2 j b → h ∉ hs → F h b → False := fun j h b h2 hn hF => by
    rcases hW2.ownd b ⟨j, h2⟩ with h3 | h3
    · obtain ⟨g, hg, hF'⟩ := h3
      exact hn (hM.apart h g b hF hF' ▸ hg)
    · exact absurd (hM.old h b hF).1 (Nat.not_lt.2 h3)
  have hat : ∀ h, h ∉ hs → h < mem.length → ∀ j, lget τ j ≠ some h := fun h hn hl j e => by
    rcases hτmem e with h1 | h1
    · exact hn h1
    · omega
  have hM' : MSat β' I' w' F' (wback hs (renM τ m) mem) := by
    refine ⟨fun h c hcg => ?_, fun h h' b h1 h2 => ?_, fun h b hle hF => ?_, fun h b hF => ?_, hM2.wh⟩
    · by_cases hh : ∃ j, lget τ j = some h
      · obtain ⟨j, hj⟩ := hh
        have hjm : j < m.length := by rw [lget_eq] at hj; rw [← hτlen]; exact (List.getElem?_eq_some_iff.1 hj).1
        have hcj : (renM τ m)[j]? = some c := by
          rcases Nat.lt_or_ge j hs.length with hj' | hj'
          · rw [← wj j h (by rw [hτ1 j hj', lget_eq] at hj; exact hj)]; exact hcg
          · have e := hτ2 j hj' hjm
            rw [hj] at e
            simp only [Option.some.injEq] at e
            rw [← wn j hj', ← e]; exact hcg
        rw [renM_get] at hcj
        obtain ⟨c0, hc0, rfl⟩ := Option.map_eq_some_iff.1 hcj
        have hFe : F' h = F2 j := by
          funext b
          simp only [F', eq_iff_iff]
          constructor
          · rintro (⟨j', e, h2⟩ | ⟨hn, hl, _⟩)
            · rw [hτnd hj e]; exact h2
            · exact (hat h hn hl j hj).elim
          · intro h2; exact .inl ⟨j, hj, h2⟩
        rw [hFe]
        exact (ren_chunk hτ hj).2 (hM2.chunk j c0 hc0)
      · have hn : h ∉ hs := fun hin => hh (by
          obtain ⟨j, hj⟩ := List.getElem?_of_mem hin
          have : j < hs.length := (List.getElem?_eq_some_iff.1 hj).1
          exact ⟨j, by rw [hτ1 j this, lget_eq]; exact hj⟩)
        have hl : h < mem.length := by
          rcases Nat.lt_or_ge h mem.length with h' | h'
          · exact h'
          · exfalso
            have h2 : h < mem.length + k := by rw [← hmlen]; exact (List.getElem?_eq_some_iff.1 hcg).1
            refine hh ⟨h - mem.length + hs.length, ?_⟩
            rw [hτ2 _ (Nat.le_add_left _ _) (by omega)]
            congr 1; omega
        rw [wo h hn hl] at hcg
        have hFe : F' h = F h := by
          funext b
          simp only [F', eq_iff_iff]
          constructor
          · rintro (⟨j', e, _⟩ | ⟨_, _, h2⟩)
            · exact (hat h hn hl j' e).elim
            · exact h2
          · intro h2; exact .inr ⟨hn, hl, h2⟩
        rw [hFe, hmlen]
        exact (hM.chunk h c hcg).mono hl (fun g hg => by simp only [β', if_pos hg]) (Nat.le_add_right _ _) hW2.keep fun b hb => hb.elim (hkeepI b) (hkeepF h b hn)
    · rcases h1 with ⟨j, e, h1⟩ | ⟨hn, hl, h1⟩ <;> rcases h2 with ⟨j', e', h2⟩ | ⟨hn', hl', h2⟩
      · have := hM2.apart j j' b h1 h2
        subst this
        rw [e] at e'; cases e'; rfl
      · exact (hsep j h' b h1 hn' h2).elim
      · exact (hsep j' h b h2 hn h1).elim
      · exact hM.apart h h' b h1 h2
    · rw [hmlen] at hle
      rcases hF with ⟨j, e, _⟩ | ⟨_, hl, _⟩
      · have := hτ.lt j h e
        omega
      · omega
    · rcases hF with ⟨j, e, h1⟩ | ⟨hn, hl, h1⟩
      · exact hM2.old j b h1
      · obtain ⟨h2, h3⟩ := hM.old h b h1
        refine ⟨Nat.lt_of_lt_of_le h2 hW2.size, fun hI => ?_⟩
        rcases hW2.whole b hI with h4 | h4 | h4
        · exact h3 h4
        · obtain ⟨g, hg, hF'⟩ := h4
          exact hn (hM.apart h g b h1 hF' ▸ hg)
        · omega
  refine ⟨β', F', hτ, hM', fun h hh => by simp only [β', if_pos hh], by rw [hmlen]; exact Nat.le_add_right _ _, ?_, hkeepI⟩
  refine ⟨hW2.os, hW2.tape, hW2.output, hW2.size, fun b hb hF => hW2.same b hb fun ⟨h, _, hF'⟩ => hF ⟨h, hF'⟩, hW2.frozen, hW2.keep, ?_, ?_⟩
  · rintro b ⟨h, ⟨j, _, h2⟩ | ⟨_, _, h2⟩⟩
    · exact (hW2.ownd b ⟨j, h2⟩).imp (fun ⟨h, _, hF'⟩ => ⟨h, hF'⟩) id
    · exact .inl ⟨h, h2⟩
  · intro b hb
    exact (hW2.whole b hb).imp id (Or.imp (fun ⟨h, _, hF'⟩ => ⟨h, hF'⟩) id)

/-- A call by the callee's contract: the handles hs of the caller are the callee's 0, 1, ..; what the callee lays anew comes behind the caller's. -/
theorem call_rule {P : Program} {f : FuncId} {d : Option Nat} {xs : List X} {s : St O} {K : St O → Prop} {args : List SV} {lmem : List (Chunk O)} {Q : SV → List (Chunk O) → Prop} (hs : List Nat)
    (hc : codeFn P f = true) (hcall : CallOK P f args lmem Q) (hnd : nodupN hs = true) (hmem : MLe hs s.mem hs lmem) (hargs : LLe hs (xs.map s.ev) args)
    (hK : ∀ r m, Q r m → lmem.length ≤ m.length → K (St.put ⟨s.env, wback hs (renM (hs ++ rangeN (m.length - lmem.length) s.mem.length) m) s.mem⟩ d (renV (hs ++ rangeN (m.length - lmem.length) s.mem.length) r))) :
    CallVC P f d xs s K := by
  refine ⟨hc, fun fr a w vs hX next hnext => ?_⟩
  obtain ⟨hd, β, I, F, hM, hE, hW, hB, hN, hV⟩ := hX
  have hndp := nodupN_ok hnd
  obtain ⟨β1, F1, hσ, hM1, hF1⟩ := hM.part hndp hmem
  have hlen : lmem.length = hs.length := hσ.len
  have hlt : ∀ h ∈ hs, h < s.mem.length := fun h hh => by
    obtain ⟨j, hj⟩ := List.getElem?_of_mem hh
    exact hσ.lt j h (by rw [lget_eq]; exact hj)
  refine Calls.mono (hcall β1 I w F1 vs hM1 (hargs.rel hσ hV)) ?_
  rintro e w' ⟨v, β2, I', F2, r, m, rfl, hW2, hβ2, hml, hM2, hr, hq⟩
  refine ⟨v, rfl, ?_⟩
  have hW2' : Went w (fun b => ∃ h, h ∈ hs ∧ F h b) I w' (fun b => ∃ h, F2 h b) I' := hW2.own fun b ⟨j, hj⟩ => by
    obtain ⟨h, e, hF⟩ := hF1 j b hj
    rw [lget_eq] at e
    exact ⟨h, List.mem_of_getElem? e, hF⟩
  obtain ⟨β', F', hτ, hM', hβ', hmlen, hW', hkeepI⟩ := hM.merge hndp hlt hW2' hM2 (by omega) fun j h e => by
    rw [hβ2 j (by rw [hlen]; rw [lget_eq] at e; exact (List.getElem?_eq_some_iff.1 e).1), hσ.eq j h e]
  rw [← hlen] at hτ hM' hmlen
  refine hnext _ _ _ (hK r m hq hml) ?_
  refine mkSat (s := ⟨s.env, _⟩) (β := β') (I := I') (F := F') hd hM' ?_ (hW.trans hW') ?_ (Nat.le_trans hN hmlen) ((ren_rel hτ).2 hr)
  · exact hE.mono hβ' hmlen hW2.keep hkeepI
  · intro h hh
    rw [hβ' h (Nat.lt_of_lt_of_le hh hN)]
    exact hB h hh

theorem CallOK.mono {P : Program} {f : FuncId} {args : List SV} {mem : List (Chunk O)} {Q Q' : SV → List (Chunk O) → Prop} (h : CallOK P f args mem Q) (hq : ∀ r m, Q r m → Q' r m) : CallOK P f args mem Q' := by
  intro β I w F vs hm ha
  refine Calls.mono (h β I w F vs hm ha) ?_
  rintro e w' ⟨v, β', I', F', sv, m, h1, h2, h3, h4, h5, h6, h7⟩
  exact ⟨v, β', I', F', sv, m, h1, h2, h3, h4, h5, h6, hq _ _ h7⟩

end Go.V
