/-
  Rows: a law whose contract holds for every data of its arguments' types answers true, and leaves its arguments alone.
-/
import Derived.Test.YtiaceoomiflgcaaVcgV
import Derived.Lib.LaidTab
import Derived.ChangeSame
import Derived.JoinedOf
import Derived.RowKit
import Derived.MakeChecks
import Derived.Stop.Joined
import Derived.WideKeyArgs
namespace Go.V
open Go.ChangeShapes Go.WideShapes Go.RowKit

def isStruct (P : Program) (t : TypeId) : Bool := match P.underlying t with | some (.struct _) => true | some (.array _ _) => true | _ => false

def argTys (P : Program) : List TypeId → Option (List (Bool × List Ty))
  | [] => some []
  | t :: ts => (match tysOf P 9 t with
    | some a => (match argTys P ts with | some l => some ((isStruct P t, a) :: l) | none => none)
    | none => none)

def gcells : Nat → (Nat → DV) → List SV
  | 0, _ => []
  | n + 1, g => .dv (g 0) :: gcells n fun i => g (i + 1)

def svArg (x : Bool × List Ty) (g : Nat → DV) : SV := match x.1 with | true => .agg (gcells x.2.length g) | false => .dv (g 0)

def hasArgs : List (Bool × List Ty) → List (Nat → DV) → Prop
  | [], [] => True
  | x :: l, g :: gs => Ty.hasL x.2 g ∧ hasArgs l gs
  | _, _ => False

def svArgs : List (Bool × List Ty) → List (Nat → DV) → List SV
  | x :: l, g :: gs => svArg x g :: svArgs l gs
  | _, _ => []

theorem hasArgs_two {x y : Bool × List Ty} : ∀ {gs : List (Nat → DV)}, hasArgs [x, y] gs → ∃ g h, gs = [g, h] ∧ Ty.hasL x.2 g ∧ Ty.hasL y.2 h
  | [g, h], k => ⟨g, h, rfl, k.1, k.2.1⟩
  | [], h => h.elim
  | [_], h => h.2.elim
  | _ :: _ :: _ :: _, h => h.2.2.elim
theorem relL_gcells {β : Nat → HI} {N : Nat} {I : Nat → Prop} {w : World} : ∀ {n : Nat} {g : Nat → DV} {cs : List Value}, cs.length = n → (∀ i, i < n → DRel I w (g i) (cs.getD i undef)) → RelL β N I w (gcells n g) cs
  | 0, g, cs, hl, _ => by simpa [gcells, RelL] using hl
  | n + 1, g, [], hl, _ => by simp at hl
  | n + 1, g, c :: cs, hl, h => by
    simp only [gcells, RelL]
    refine ⟨c, cs, rfl, ?_, relL_gcells (by simpa using hl) fun i hi => ?_⟩
    · simpa only [Rel, List.getD_cons_zero] using h 0 (Nat.succ_pos n)
    · simpa using h (i + 1) (by omega)

section
variable {H : Type} {enc : TypeId × Value → H} {P : Program} {w : World}

theorem okWide_arr {r : Reach} {base : Nat} {t e : TypeId} {m : Nat} {v : Value} (ht : P.underlying t = some (.array m e)) (h : Value.okWide P w r base t v) : ∃ cs, v = .agg cs ∧ cs.size = P.cellsOf t := by
  simp only [Value.okWide, ht] at h
  obtain ⟨cs, h1, h2, _⟩ := h
  exact ⟨cs, h1, h2⟩

theorem cells_alone {n : Nat} {t : TypeId} {ts : List Ty} {base : Nat} {r : Reach} {v : Value} (h : tysOf P n t = some ts) (hs : isStruct P t = false) (hv : Value.okWide P w r base t v) : v.cells.toList = [v] := by
  cases n with
  | zero => simp [tysOf] at h
  | succ n =>
    simp only [tysOf] at h
    split at h
    · rename_i k ht; obtain ⟨m, rfl⟩ := okWide_int ht hv; rfl
    · rename_i ht; obtain ⟨m, rfl⟩ := okWide_bool ht hv; rfl
    · rename_i ht; obtain ⟨m, rfl⟩ := okWide_string ht hv; rfl
    · rename_i e ht; obtain ⟨a, l, c, rfl⟩ := okWide_slice ht hv; rfl
    · rename_i fs ht; simp [isStruct, ht] at hs
    · rename_i m e ht; simp [isStruct, ht] at hs
    · cases h

theorem read_args {held : Bool} {spare : Nat → Bool} {β : Nat → HI} {base : Nat} {r : Reach} : ∀ {ts : List TypeId} {vs : List Value} {ds : List (DataW H)} {ps : List MemPlace} {L : List (Bool × List Ty)}, argTys P ts = some L →
    DataW.TrodAll enc P w 0 spare held ts vs ds ps → (∀ (j : Nat) t v, ts[j]? = some t → vs[j]? = some v → Value.okWide P w r base t v) →
    (DataW.weightsEach P ts ds).all (· ≤ reachBytes) = true → ∃ gs, hasArgs L gs ∧ RelL β 0 (· < w.heap.size) w (svArgs L gs) vs
  | [], vs, ds, ps, L, hL, h, _, _ => by
    obtain ⟨rfl, rfl, rfl⟩ := trodAll_nil h
    simp only [argTys, Option.some.injEq] at hL
    subst hL
    exact ⟨[], trivial, rfl⟩
  | t :: ts, vs, ds, ps, L, hL, h, hv, hw => by
    obtain ⟨v, vs', d, ds', p, q, rfl, rfl, rfl, h1, h2⟩ := trodAll_cons h
    simp only [argTys] at hL
    split at hL
    · rename_i a ha
      split at hL
      · rename_i l hl
        simp only [Option.some.injEq] at hL
        subst hL
        simp only [DataW.weightsEach, List.all_append, Bool.and_eq_true] at hw
        obtain ⟨gs, hg, hr⟩ := read_args (β := β) hl h2 (fun j t v ht hv' => hv (j + 1) t v (by simpa using ht) (by simpa using hv')) hw.2
        obtain ⟨fuel, hf⟩ := h1
        obtain ⟨g, gl, gh, gd⟩ := reads ha hf hw.1
        refine ⟨g :: gs, ⟨gh, hg⟩, ?_⟩
        have hok := hv 0 t v rfl rfl
        simp only [svArgs, RelL]
        refine ⟨v, vs', rfl, ?_, hr⟩
        cases hst : isStruct P t
        · have hc := cells_alone ha hst hok
          rw [hc] at gl gd
          simp only [svArg, Rel]
          simpa using gd 0 (by simp at gl; omega)
        · simp only [svArg, Rel]
          unfold isStruct at hst
          split at hst
          · rename_i fs ht
            obtain ⟨cs, rfl, _⟩ := okWide_struct ht hok
            have gl : cs.toList.length = a.length := gl
            have gd : ∀ i, i < a.length → DRel (· < w.heap.size) w (g i) (cs.toList.getD i undef) := gd
            exact ⟨cs.toList, by simp, relL_gcells gl gd⟩
          · rename_i m e ht
            obtain ⟨cs, rfl, _⟩ := okWide_arr ht hok
            have gl : cs.toList.length = a.length := gl
            have gd : ∀ i, i < a.length → DRel (· < w.heap.size) w (g i) (cs.toList.getD i undef) := gd
            exact ⟨cs.toList, by simp, relL_gcells gl gd⟩
          · cases hst
      · cases hL
    · cases hL

theorem trodAll_len {held : Bool} {spare : Nat → Bool} {base : Nat} : ∀ {ts : List TypeId} {vs : List Value} {ds : List (DataW H)} {ps : List MemPlace}, DataW.TrodAll enc P w base spare held ts vs ds ps → ds.length = ts.length
  | [], _, _, _, h => by
    obtain ⟨rfl, rfl, _⟩ := trodAll_nil h
    rfl
  | _ :: _, _, _, _, h => by
    obtain ⟨v, vs1, d, ds1, a, b, rfl, rfl, rfl, _, h2⟩ := trodAll_cons h
    simp [trodAll_len h2]

theorem trodAll_stays {w' : World} (hl : laidOutB P = true) {sp : Nat → Bool} (hb : Below w.heap.size w w') : ∀ {ts : List TypeId} {vs : List Value} {ds : List (DataW H)} {ps : List MemPlace},
    (∀ t ∈ ts, P.readableRec t = true ∧ t < P.types.size) → DataW.TrodAll enc P w 0 (fun _ => true) true ts vs ds ps → (∀ x ∈ ps, x.block < w.heap.size) → (∀ x ∈ ps, sp x.block = true) → DataW.TrodAll enc P w' 0 sp true ts vs ds ps
  | [], vs, ds, ps, _, h, _, _ => by
    obtain ⟨rfl, rfl, rfl⟩ := trodAll_nil h
    rfl
  | t :: ts, vs, ds, ps, hr, h, hlt, hsp => by
    obtain ⟨v, vs', d, ds', p, q, rfl, rfl, rfl, h1, h2⟩ := trodAll_cons h
    refine ⟨p, q, ?_, trodAll_stays hl hb (fun t ht => hr t (List.mem_cons_of_mem _ ht)) h2 (fun x hx => hlt x (List.mem_append_right _ hx)) (fun x hx => hsp x (List.mem_append_right _ hx)), rfl⟩
    have h3 := hr t (List.mem_cons_self ..)
    exact WideElems.Trod_stays hl h3.1 h3.2 h1 (fun x hx => hb.same (hlt x (List.mem_append_left _ hx))) (fun x hx => hsp x (List.mem_append_left _ hx))
end

theorem Went.below {w w' : World} {F I F' I' : Nat → Prop} (h : Went w F I w' F' I') (hF : ∀ b, ¬ F b) : Below w.heap.size w w' :=
  ⟨h.os, h.tape, h.output, h.size, fun k hk => h.same k hk (hF k)⟩

/-- What reads as before satisfies the law's word; of cells that were not there before nothing is asked. -/
theorem post_same_old {H : Type} {enc : TypeId × Value → H} {P : Program} {f : Func} {s : ChangeSpec} {fresh handsOn again : Bool} {W W' : World} {args : Array Value} {v : Value} {ds gs : List (DataW H)} {before pv : List MemPlace}
    (hW : DataW.Whole enc P f.params.toList s.vars false W args.toList ds gs before)
    (hres : ∀ (b : Nat) (sp : Nat → Bool) (hd : Bool), DataW.TrodAll enc P W' b sp hd f.resultTypes.toList (v.resultList f.resultTypes.size) (s.fn H (ds ++ gs)).results [])
    (hargs : ∀ sp : Nat → Bool, (∀ p ∈ before, sp p.block = true) → DataW.TrodAll enc P W' 0 sp true f.params.toList args.toList (s.fn H (ds ++ gs)).args before)
    (hvars : ∀ sp : Nat → Bool, (∀ p ∈ before, sp p.block = true) → DataW.TrodVars enc P W' sp s.vars (s.fn H (ds ++ gs)).vars pv) (hpv : pv = [])
    (hk : W.keptBut W' (· ∈ before)) (hfz : ∀ a, a.block < W.heap.size → W'.frozen? a = W.frozen? a)
    (hok : ∀ (j : Nat) (t : TypeId) (r : Value), f.resultTypes[j]? = some t → (v.resultList f.resultTypes.size)[j]? = some r → Value.okWide P W' .any 0 t r) :
    s.post enc P f false fresh handsOn again W args v W' := by
  subst hpv
  have hlt : ∀ p ∈ before, p.block < W.heap.size := fun p hp => hW.lt p hp
  have hold : ∀ p ∈ before, (fun b => decide (b < W.heap.size)) p.block = true := fun p hp => decide_eq_true (hlt p hp)
  have hz : W.noneFrozen before := by
    obtain ⟨_, _, _, _, _, hz, _⟩ := hW
    exact hz
  refine ⟨ds, gs, before, [], before, [], hW, hres _ _ _, hargs _ hold, hvars _ hold, World.keptBut_mono (fun p hp => ⟨hp, .inr (.inl hp)⟩) hk, fun _ => ?_⟩
  have hz' : W'.noneFrozen before := fun b off hp => (hfz ⟨b, off, none⟩ (hlt _ hp)).trans (hz b off hp)
  exact ⟨hok, _, _, before, ⟨before, [], trodAll_append (hargs _ (fun _ _ => rfl)) (hres _ _ _), hvars _ (fun _ _ => rfl), (List.append_nil _).symm, hz', nofun⟩, fun p hp _ => hp⟩

/-- The call itself. -/
theorem law_calls {C : Checked} {f : FuncId} {fn : Func} {s : ChangeSpec} {H : Type} {enc : TypeId × Value → H} {tb : TypeId} {fresh handsOn again : Bool} {L : List (Bool × List Ty)}
    (hvars : s.vars = []) (hspec : ∀ ds : List (DataW H), ds.length = fn.params.size → s.fn H ds = { results := [.lit (.bool true)], args := ds })
    (hlaid : laidOutB C.prog = true) (hread : fn.params.toList.all (fun t => C.prog.readableRec t && decide (t < C.prog.types.size)) = true)
    (hres : fn.resultTypes = #[tb]) (htb : C.prog.underlying tb = some .bool) (hL : argTys C.prog fn.params.toList = some L)
    (call : ∀ gs, hasArgs L gs → CallOK (O := Ob) C.prog f (svArgs L gs) [] fun r _ => r = .dv (.bool true))
    {W : World} {base : Nat} {args : Array Value} {ds gs : List (DataW H)} {before : List MemPlace} (htabs : Tabs (Objs.gd Ob) (· < W.heap.size) W)
    (hval : ∀ (j : Nat) t v, fn.params[j]? = some t → args[j]? = some v → Value.okWide C.prog W .any base t v)
    (hWh : DataW.Whole enc C.prog fn.params.toList s.vars false W args.toList ds gs before)
    (hwt : (DataW.weightsEach C.prog (fn.params.toList ++ s.plain.varTypes C.prog) (ds ++ gs)).all (· ≤ reachBytes) = true) :
    Calls C.prog f args W fun e W' => ∃ v, e = .returned v ∧ s.post enc C.prog fn false fresh handsOn again W args v W' := by
  have hw' := hWh
  obtain ⟨p, q, hA, hV, hb, _, _⟩ := hw'
  have hvs : s.vars = [] := hvars
  rw [hvs] at hV
  obtain ⟨rfl, rfl⟩ := trodVars_none hV
  rw [List.append_nil] at hb
  subst hb
  have hvt : s.plain.varTypes C.prog = [] := by
    unfold ChangeSpec.plain DataSpec.varTypes
    simp [hvs]
  have hwt2 : (DataW.weightsEach C.prog fn.params.toList ds).all (· ≤ reachBytes) = true := by
    have h1 : (DataW.weightsEach C.prog (fn.params.toList ++ s.plain.varTypes C.prog) (ds ++ [])).all (· ≤ reachBytes) = true := hwt
    rw [hvt, List.append_nil, List.append_nil] at h1
    exact h1
  obtain ⟨gs, hg, hr⟩ := read_args (β := fun _ => ⟨0, 0, 0, 0, false, none⟩) (r := .any) (base := base) hL hA (fun j t v ht hv => hval j t v (by simpa using ht) (by simpa using hv)) hwt2
  have hM : MSat (O := Ob) (fun _ => ⟨0, 0, 0, 0, false, none⟩) (· < W.heap.size) W (fun _ _ => False) [] :=
    ⟨fun h c e => by simp at e, fun _ _ _ h => h.elim, fun _ _ _ h => h, fun _ _ h => h.elim, ⟨fun _ h => h, htabs⟩⟩
  have hc := call gs hg _ _ W _ args.toList hM hr
  rw [Array.toArray_toList] at hc
  refine hc.mono ?_
  rintro e W' ⟨v, β', I', F', sv, mem', rfl, h2, h3, h4, h5, h6, rfl⟩
  simp only [Rel, DRel] at h6
  subst h6
  have hbel := h2.below (fun b ⟨_, h⟩ => h)
  have hlt : ∀ x ∈ before, x.block < W.heap.size := fun x hx => hWh.lt x hx
  have hlen : ds.length = fn.params.size := by
    rw [trodAll_len hA, Array.length_toList]
  refine ⟨_, rfl, post_same_old (before := before) hWh (fun _ _ _ => ?_) (fun sp hsp => ?_) (fun _ _ => ?_) rfl (hbel.frame _) (fun a ha => h2.frozen a ha) ?_⟩
  · rw [List.append_nil, hspec ds hlen, hres]
    exact trodAll_mk1 (shut_bool htb true)
  · rw [List.append_nil, hspec ds hlen]
    refine trodAll_stays hlaid hbel (fun t ht => ?_) hA hlt hsp
    have := List.all_eq_true.1 hread t ht
    simpa using this
  · rw [List.append_nil, hspec ds hlen, hvs]
    rfl
  · exact ok_one hres rfl (okWide_bool_mk htb true)

theorem law_lifted {C : Checked} {os : Os} {f : FuncId} {fn : Func} {s : ChangeSpec} {H : Type} {enc : TypeId × Value → H} {tb : TypeId} {fresh handsOn again : Bool} {L : List (Bool × List Ty)}
    (own : ownKnob C.prog.godebug = none) (started : os.Started) (noInit : C.prog.inits.idxOf? f = none) (hfn : C.prog.funcs[f]? = some fn)
    (witness : ∃ (w : World) (tape : Tape) (i : Input), w.os = os ∧ (w.forCall tape i).Shaped C.prog ∧ i.vars = [] ∧ Input.okWide C.prog (w.forCall tape i) .any w.heap.size f i ∧
      s.pre6 enc C.prog fn [] false (w.forCall tape i).memory i.args ∧ ({} : Assume).holds C.prog (lone (Frame.enter C.prog f i.args .normal) [] (w.forCall tape i)))
    (hvars : s.vars = []) (hspec : ∀ ds : List (DataW H), ds.length = fn.params.size → s.fn H ds = { results := [.lit (.bool true)], args := ds })
    (hlaid : laidOutB C.prog = true) (hread : fn.params.toList.all (fun t => C.prog.readableRec t && decide (t < C.prog.types.size)) = true)
    (hres : fn.resultTypes = #[tb]) (htb : C.prog.underlying tb = some .bool) (hL : argTys C.prog fn.params.toList = some L)
    (htabs : ∀ W : World, Tabs (Objs.gd Ob) (· < W.heap.size) W)
    (call : ∀ gs, hasArgs L gs → CallOK (O := Ob) C.prog f (svArgs L gs) [] fun r _ => r = .dv (.bool true)) :
    ReturnsInHanded {} C os f .any (s.pre6 enc C.prog fn [] false) (s.post enc C.prog fn false fresh handsOn again) := by
  refine returnsInHanded_of_calls own started noInit witness ?_
  intro w tape i _ _ _ hok hpre _
  obtain ⟨_, _, _, fn', hfn', _, _, _, _, hval⟩ := hok
  have e : fn' = fn := Option.some.inj (hfn'.symm.trans hfn)
  subst e
  obtain ⟨⟨ds, gs, before, hw, _⟩, hz⟩ := hpre
  have hw' := DataW.Whole.of_heap (w' := w.forCall tape i) (by rfl) hw
  refine (law_calls (fresh := fresh) (handsOn := handsOn) (again := again) hvars hspec hlaid hread hres htb hL call (htabs _) hval hw' (hz.weights hw)).mono fun e W' ⟨v, he, hp⟩ => ?_
  subst he
  exact ChangeSpec.post_blind hp

end Go.V
