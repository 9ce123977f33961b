/-
  The conditions suffice: sets of keys of whole numbers.
-/
import Derived.Test.YtiaceoomiflgcaaVcgM
namespace Go.V
variable {O : Type} [Objs O]

theorem frozen_push {w : World} {es : Array MapEntry} {cl : Nat} (a : Addr) : (wpush w (.map es cl)).frozen? a = w.frozen? a := by
  unfold World.frozen?
  rcases Nat.lt_trichotomy a.block w.heap.size with h | h | h
  · rw [wpush_old h]
  · rw [h, wpush_new, Array.getElem?_eq_none (Nat.le_refl _)]
  · rw [Array.getElem?_eq_none (by simp [wpush]; omega), Array.getElem?_eq_none (by omega)]

theorem frozen_map {w : World} {b : Nat} {es es' : Array MapEntry} {cl cl' : Nat} (h : w.heap[b]? = some (.map es cl)) (a : Addr) :
    (wset w b (.map es' cl')).frozen? a = w.frozen? a := by
  unfold World.frozen?
  by_cases hk : a.block = b
  · rw [hk, wset_eq (lt_of_get h), h]
  · rw [wset_ne hk]

theorem ok_makeMap {P : Program} {o : Oper} {s : St O} {K : St O → Prop} {t : TypeId} {n : Nat} (ho : o.op = .makeMap t none) (h : vop std P o.dst (.mkM n) s K) : SemO P o s K := by
  simp only [vop] at h
  refine sem_new h fun a w β I F hm he => ?_
  refine ⟨.map (some w.heap.size), wpush w (.map #[] 0), ⟨w.heap.size, 0, 0, 0, false, none⟩, fun b => b = w.heap.size, ?_, rfl, rfl, rfl, by simp [wpush], fun b hb => wpush_old hb, fun b hb => by subst hb; simp [wpush], frozen_push, ?_, ?_⟩
  · simp only [execOp, ho]
    refine run_v ?_
    simp [Instr.makeMap, newObj, Sem.run, wpush]
  · simp only [CSat, fup_eq]
    exact ⟨fun _ => trivial, ⟨rfl, rfl, rfl, rfl, rfl⟩, #[], 0, wpush_new, fun e he => by simp at he, fun l hl => by cases hl⟩
  · simp only [Rel, fup_eq]
    exact ⟨Nat.lt_succ_self _, trivial⟩

theorem keyInts_ok {β : Nat → HI} {N : Nat} {I : Nat → Prop} {w : World} : ∀ {l : List SV} {vs : List Value} {ks : List Int}, RelL β N I w l vs → keyInts l = some ks → vs = ks.map (Value.int .i64)
  | [], vs, ks, h, hk => by simp only [keyInts, Option.some.injEq] at hk; subst hk; simpa only [RelL, List.map_nil] using h
  | v :: l, vs, ks, h, hk => by
    simp only [RelL] at h
    obtain ⟨y, ys, rfl, h1, h2⟩ := h
    unfold keyInts at hk
    split at hk
    · rename_i e; cases e
    · rename_i n r e
      cases e
      split at hk
      · rename_i l' hl
        simp only [Option.some.injEq] at hk
        subst hk
        simp only [Rel, DRel] at h1
        rw [List.map_cons, h1, keyInts_ok h2 hl]
      · cases hk
    · cases hk

theorem ikey_inj {a b : List Int} (h : ikey a = ikey b) : a = b := by
  have h1 : (a.map (Value.int .i64)).toArray = (b.map (Value.int .i64)).toArray := by injection h
  have h2 : a.map (Value.int .i64) = b.map (Value.int .i64) := by simpa using h1
  induction a generalizing b with
  | nil => cases b with | nil => rfl | cons => simp at h2
  | cons x a ih =>
    cases b with
    | nil => simp at h2
    | cons y b =>
      simp only [List.map_cons, List.cons.injEq, Value.int.injEq, true_and] at h2
      rw [h2.1, ih (by simp only [ikey]; rw [h2.2]) (by rw [h2.2]) h2.2]

/-- What a key looks up. -/
theorem SetK.find {P : Program} {t : TypeId} {n : Nat} {ks : List Int} (K : SetK P t n ks) (hl : ks.length = n) {es : Array MapEntry} {has : List Int → Bool}
    (h1 : ∀ e ∈ es.toList, e.val = .agg #[] ∧ ∃ l : List Int, l.length = n ∧ (∀ x ∈ l, IntKind.i64.has x) ∧ e.key = ikey l ∧ has l = true) (h2 : ∀ l, has l = true → ∃ e ∈ es.toList, e.key = ikey l) :
    ∃ k e, P.underlying t = some (.map k e) ∧ (∀ w : World, (zeroValue e).run P w = .ok (.agg #[]) w) ∧ (∀ (w : World) (em : Bool), (Instr.checkKey em 10000 k (ikey ks)).run P w = .ok () w) ∧
      (∀ w : World, (Instr.keyThatStays (ikey ks) (ikey ks)).run P w = .ok (ikey ks) w) ∧
      ((∀ w : World, (Instr.findKey k (ikey ks) es.toList).run P w = .ok none w) ∧ has ks = false ∨
       (∀ w : World, ∃ j e0, (Instr.findKey k (ikey ks) es.toList).run P w = .ok (some (j, .agg #[])) w ∧ es[j]? = some e0 ∧ e0.key = ikey ks) ∧ has ks = true) := by
  obtain ⟨k, e, hu, L, hlit, hz⟩ := K.ex
  obtain ⟨kl, hkl⟩ := hlit ks hl K.has
  have hall : ∀ e ∈ es.toList, ∃ l, keyOf P k e.key = some l := fun e he => by
    obtain ⟨_, l, a, b, c, _⟩ := h1 e he
    rw [c]; exact hlit l a b
  refine ⟨k, e, hu, hz, fun w em => L.check w em hkl, fun w => L.stays w hkl, ?_⟩
  cases hh : has ks
  · refine .inl ⟨fun w => ?_, rfl⟩
    rcases L.find w hkl es.toList hall with ⟨f1, _⟩ | ⟨j, e0, _, f2, f3⟩
    · exact f1
    · obtain ⟨_, l, _, _, c, d⟩ := h1 e0 (List.mem_of_getElem? f2)
      rw [f3] at c
      rw [ikey_inj c, d] at hh
      cases hh
  · obtain ⟨e1, he1, hk1⟩ := h2 ks hh
    refine .inr ⟨fun w => ?_, rfl⟩
    rcases L.find w hkl es.toList hall with ⟨_, f2⟩ | ⟨j, e0, f1, f2, f3⟩
    · exact (f2 e1 he1 hk1).elim
    · rw [(h1 e0 (List.mem_of_getElem? f2)).1] at f1
      exact ⟨j, e0, f1, by simpa using f2, f3⟩

theorem ok_lookup {P : Program} {o : Oper} {s : St O} {K : St O → Prop} {t : TypeId} {n : Nat} {x y : Operand} (ho : o.op = .lookup t x y true) (hc : compOp P o.op = .mlk t n (cX x) (cX y))
    (h : vop std P o.dst (.mlk t n (cX x) (cX y)) s K) : SemO P o s K := by
  simp only [vop] at h
  split at h
  · rename_i hh l hx hl
    split at h
    · rename_i n' has ks hch hks
      split at h
      · rename_i hcond
        obtain ⟨rfl, hkl⟩ := hcond
        obtain ⟨hS, hK⟩ := h
        refine SemY.semO (L := [hh]) fun a w β I F hm he => ?_
        have h1 := ev_rel he x
        rw [hx] at h1
        simp only [Rel] at h1
        have h2 := ev_rel he y
        rw [hl] at h2
        simp only [Rel] at h2
        obtain ⟨cs, hcs, hrl⟩ := h2
        have hkey : a.eval y = ikey ks := by rw [hcs, keyInts_ok hrl hks]; rfl
        have hct := lget_chunk hm hch
        simp only [CSat] at hct
        obtain ⟨hF, hpl, es, cl, hb, k1, k2⟩ := hct
        obtain ⟨k, e, hu, hz, hck, _, hfind⟩ := hS.find hkl k1 k2
        refine ⟨.tuple #[.agg #[], .bool (has ks)], _, fun w' hw' => ?_, ?_, hK⟩
        · have hb' : w'.heap[(β hh).blk]? = some (.map es cl) := by rw [hw' _ (.inr ⟨hh, by simp, (hF _).2 rfl⟩)]; exact hb
          simp only [execOp, ho]
          refine run_v ?_
          rw [h1.2, hkey]
          rcases hfind with ⟨f1, f2⟩ | ⟨f1, f2⟩
          · simp [Instr.lookup, run_underlying hu, MapKept.run_getObj_map hb', hck, f1, hz, f2, Result.andThen]
          · obtain ⟨j, e0, f3, _⟩ := f1 w'
            simp [Instr.lookup, run_underlying hu, MapKept.run_getObj_map hb', hck, f3, f2, Result.andThen]
        · simp only [Rel]
          exact ⟨[.agg #[], .bool (has ks)], rfl, _, _, rfl, ⟨[], rfl, rfl⟩, _, _, rfl, rfl, rfl⟩
      · exact stuck_ok rfl hc h
    · exact stuck_ok rfl hc h
  · exact stuck_ok rfl hc h

/-- The state behind a write into a set of one's own. -/
theorem sem_setw {P : Program} {o : Oper} {s : St O} {K : St O → Prop} {hh : Nat} {c c' : Chunk O} (hc : lget s.mem hh = some c) (hK : K ((s.mset hh c').put o.dst .junk))
    (h : ∀ (a : Act) (w : World) (β : Nat → HI) (I : Nat → Prop) (F : Nat → Nat → Prop), MSat β I w F s.mem → RelL β s.mem.length I w s.env a.tmps.toList →
      ∃ es es' cl cl', w.heap[(β hh).blk]? = some (.map es cl) ∧ F hh (β hh).blk ∧ (execOp a.eval o).run P w = .ok .skip (wset w (β hh).blk (.map es' cl')) ∧
        (∀ b, F hh b → b = (β hh).blk) ∧
        CSat β s.mem.length I (wset w (β hh).blk (.map es' cl')) hh (F hh) c') : SemO P o s K := by
  intro fr a w hs next Q hnext
  obtain ⟨hd, β, I, F, hm, he, hw, hb, hn⟩ := hs
  obtain ⟨es, es', cl, cl', hblk, hF, hr, hF1, hcs⟩ := h a w β I F hm he
  have hlen : (s.mset hh c').mem.length = s.mem.length := by simp [St.mset, lset_eq]
  have hsz : (wset w (β hh).blk (.map es' cl')).heap.size = w.heap.size := by simp [wset]
  have hne : ∀ b, ¬ F hh b → (wset w (β hh).blk (.map es' cl')).heap[b]? = w.heap[b]? := fun b hb => wset_ne fun e => hb (e ▸ hF)
  rw [Oper.wp, hr]
  show next (a.put o.dst undef) _
  have hwI : ∀ k, I k → (wset w (β hh).blk (.map es' cl')).heap[k]? = w.heap[k]? := fun k hk => hne k fun hF => (hm.old hh k hF).2 hk
  refine hnext _ _ _ hK (mkSat (s := s.mset hh c') (β := β) (I := I) (F := F) hd ?_ ?_ ?_ hb (by rw [hlen]; exact hn) (by simp [Rel]))
  · exact hm.upd hc hsz hne hcs
  · rw [hlen]
    exact he.mono (fun _ _ => rfl) (Nat.le_refl _) (fun _ h => h) hwI
  · exact hw.trans (Went.upd (G := F hh) rfl rfl rfl hsz hne (fun b hb => ⟨hh, hb⟩) (frozen_map hblk))

theorem ok_mapUpdate {P : Program} {o : Oper} {s : St O} {K : St O → Prop} {t : TypeId} {n : Nat} {x y z : Operand} (ho : o.op = .mapUpdate t x y z) (hc : compOp P o.op = .mup t n (cX x) (cX y) (cX z))
    (h : vop std P o.dst (.mup t n (cX x) (cX y) (cX z)) s K) : SemO P o s K := by
  simp only [vop] at h
  split at h
  · rename_i hh l hx hl hv
    split at h
    · rename_i n' has ks hch hks
      split at h
      · rename_i hcond
        obtain ⟨rfl, hkl⟩ := hcond
        obtain ⟨hS, hK⟩ := h
        refine sem_setw hch hK fun a w β I F hm he => ?_
        have h1 := ev_rel he x
        rw [hx] at h1
        simp only [Rel] at h1
        have h2 := ev_rel he y
        rw [hl] at h2
        simp only [Rel] at h2
        obtain ⟨cs, hcs, hrl⟩ := h2
        have hkey : a.eval y = ikey ks := by rw [hcs, keyInts_ok hrl hks]; rfl
        have h3 := ev_rel he z
        rw [hv] at h3
        simp only [Rel] at h3
        obtain ⟨ds, hds, hdl⟩ := h3
        have hval : a.eval z = .agg #[] := by simp only [RelL] at hdl; rw [hds, hdl]
        have hct := lget_chunk hm hch
        simp only [CSat] at hct
        obtain ⟨hF, hpl, es, cl, hb, k1, k2⟩ := hct
        obtain ⟨k, e, hu, hz, hck, hst, hfind⟩ := hS.find hkl k1 k2
        rcases hfind with ⟨f1, f2⟩ | ⟨f1, f2⟩
        · refine ⟨es, es.push ⟨ikey ks, .agg #[], cl⟩, cl, cl + 1, hb, (hF _).2 rfl, ?_, fun b hb => (hF b).1 hb, ?_⟩
          · simp only [execOp, ho]
            rw [h1.2, hkey, hval]
            simp [Instr.mapUpdate, run_underlying hu, MapKept.run_getObj_map hb, hck, f1, MapKept.run_setObj_map _ hb, Result.andThen, wset]
          · simp only [CSat]
            refine ⟨hF, hpl, _, _, wset_eq (lt_of_get hb), fun e0 he0 => ?_, fun l hl => ?_⟩
            · simp only [Array.toList_push, List.mem_append, List.mem_singleton] at he0
              rcases he0 with he0 | rfl
              · obtain ⟨q1, l, q2, q3, q4, q5⟩ := k1 e0 he0
                exact ⟨q1, l, q2, q3, q4, by simp [std, addKey, q5]⟩
              · exact ⟨rfl, ks, hkl, hS.has, rfl, by simp [std, addKey]⟩
            · simp only [std, addKey] at hl
              simp only [Array.toList_push, List.mem_append, List.mem_singleton]
              split at hl
              · rename_i e0
                exact ⟨_, .inr rfl, by rw [e0]⟩
              · obtain ⟨e0, q1, q2⟩ := k2 l hl
                exact ⟨e0, .inl q1, q2⟩
        · obtain ⟨j, e0, f3, f4, f5⟩ := f1 w
          refine ⟨es, es.modify j (fun e => { e with key := ikey ks, val := .agg #[] }), cl, cl, hb, (hF _).2 rfl, ?_, fun b hb => (hF b).1 hb, ?_⟩
          · simp only [execOp, ho]
            rw [h1.2, hkey, hval]
            simp [Instr.mapUpdate, run_underlying hu, MapKept.run_getObj_map hb, hck, f3, f4, f5, hst, MapKept.run_setObj_map _ hb, Result.andThen, wset]
          · have hmod : ∀ e1, e1 ∈ (es.modify j (fun e => { e with key := ikey ks, val := .agg #[] })).toList ↔ ∃ i : Nat, (es.modify j (fun e => { e with key := ikey ks, val := .agg #[] }))[i]? = some e1 := fun e1 => by
              rw [List.mem_iff_getElem?]; simp only [Array.getElem?_toList]
            have hget : ∀ i : Nat, (es.modify j (fun e => { e with key := ikey ks, val := .agg #[] }))[i]? = if i = j then some { e0 with key := ikey ks, val := .agg #[] } else es[i]? := fun i => by
              rw [Array.getElem?_modify]
              by_cases hij : j = i
              · subst hij; simp [f4]
              · simp [hij, Ne.symm hij]
            simp only [CSat]
            refine ⟨hF, hpl, _, _, wset_eq (lt_of_get hb), fun e1 he1 => ?_, fun l hl => ?_⟩
            · obtain ⟨i, hi⟩ := (hmod e1).1 he1
              rw [hget] at hi
              split at hi
              · cases hi
                exact ⟨rfl, ks, hkl, hS.has, rfl, by simp [std, addKey]⟩
              · obtain ⟨q1, l, q2, q3, q4, q5⟩ := k1 e1 (Array.mem_toList_iff.2 (Array.mem_of_getElem? hi))
                exact ⟨q1, l, q2, q3, q4, by simp [std, addKey, q5]⟩
            · have hl' : has l = true := by
                simp only [std, addKey] at hl
                split at hl
                · rename_i e1; rw [e1]; exact f2
                · exact hl
              obtain ⟨e1, q1, q2⟩ := k2 l hl'
              obtain ⟨i, hi⟩ := List.mem_iff_getElem?.1 q1
              rw [Array.getElem?_toList] at hi
              by_cases hij : i = j
              · subst hij
                rw [f4] at hi
                cases hi
                exact ⟨_, (hmod _).2 ⟨i, by rw [hget, if_pos rfl]⟩, by rw [← q2, f5]⟩
              · exact ⟨e1, (hmod _).2 ⟨i, by rw [hget, if_neg hij]; exact hi⟩, q2⟩
      · exact stuck_ok rfl hc h
    · exact stuck_ok rfl hc h
  · exact stuck_ok rfl hc h

end Go.V
