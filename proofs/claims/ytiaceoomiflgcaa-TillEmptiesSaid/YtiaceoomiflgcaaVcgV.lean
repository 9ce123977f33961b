/-
  Reading: what a row's arguments hold, as the executor's data.
-/
import Derived.Test.YtiaceoomiflgcaaVcgU
import Derived.ChangeArms
import Derived.DataReads
import Derived.OpenShut
import Derived.Carry
import Derived.Handed
namespace Go.V

inductive Ty where
  | int (k : IntKind)
  | bool
  | str
  | slice (es : List Ty)

mutual
/-- A datum of a type. -/
def Ty.has : Ty → DV → Prop
  | .int k, d => ∃ n, k.has n ∧ d = .int k n
  | .bool, d => ∃ b, d = .bool b
  | .str, d => ∃ s, d = .str s ∧ s.size ≤ 140737488351232
  | .slice es, d => ∃ n g, d = .seq n es.length g ∧ n ≤ maxN ∧ ∀ i, i < n → Ty.hasL es (g i)
def Ty.hasL : List Ty → (Nat → DV) → Prop
  | [], _ => True
  | e :: es, g => e.has (g 0) ∧ Ty.hasL es fun f => g (f + 1)
end

def tysFields (P : Program) (r : TypeId → Option (List Ty)) : Nat → List Field → Option (List Ty)
  | _, [] => some []
  | o, f :: fs => if f.offset = o then (match r f.type with
    | some a => if a.length = P.cellsOf f.type then (match tysFields P r (o + a.length) fs with | some b => some (a ++ b) | none => none) else none
    | none => none) else none

def tysRep (a : List Ty) : Nat → List Ty
  | 0 => []
  | n + 1 => a ++ tysRep a n

/-- The cells of a type. -/
def tysOf (P : Program) : Nat → TypeId → Option (List Ty)
  | 0, _ => none
  | n + 1, t => match P.underlying t with
    | some (.int k) => some [.int k]
    | some .bool => some [.bool]
    | some .string => some [.str]
    | some (.slice e) => (match tysOf P n e with
      | some es => if es.length = P.cellsOf e ∧ 0 < es.length ∧ 1 ≤ P.bytesOf e then some [.slice es] else none
      | none => none)
    | some (.struct fs) => (match tysFields P (fun t => tysOf P n t) 0 fs.toList with
      | some l => if l.length = P.cellsOf t then some l else none
      | none => none)
    | some (.array m e) => (match tysOf P n e with
      | some es => if es.length = P.cellsOf e ∧ (tysRep es m).length = P.cellsOf t ∧ m ≤ 64 then some (tysRep es m) else none
      | none => none)
    | _ => none

def Reads (I : Nat → Prop) (w : World) (ts : List Ty) (cs : List Value) : Prop :=
  ∃ g : Nat → DV, cs.length = ts.length ∧ Ty.hasL ts g ∧ ∀ i, i < ts.length → DRel I w (g i) (cs.getD i undef)

theorem hasL_append : ∀ {a b : List Ty} {g h : Nat → DV}, Ty.hasL a g → Ty.hasL b h → Ty.hasL (a ++ b) (fun i => if i < a.length then g i else h (i - a.length))
  | [], b, g, h, _, hb => by simpa using hb
  | e :: a, b, g, h, ha, hb => by
    simp only [Ty.hasL, List.cons_append] at ha ⊢
    refine ⟨by simpa using ha.1, ?_⟩
    have := hasL_append ha.2 hb
    have e1 : (fun f => if f + 1 < (e :: a).length then g (f + 1) else h (f + 1 - (e :: a).length)) = fun i => if i < a.length then g (i + 1) else h (i - a.length) := by
      funext i
      simp only [List.length_cons, Nat.add_lt_add_iff_right, Nat.add_sub_add_right]
    rw [e1]
    exact this

theorem Reads.append {I : Nat → Prop} {w : World} {a b : List Ty} {l m : List Value} (h : Reads I w a l) (k : Reads I w b m) : Reads I w (a ++ b) (l ++ m) := by
  obtain ⟨g, hl, hh, hd⟩ := h
  obtain ⟨g', kl, kh, kd⟩ := k
  refine ⟨_, by simp [hl, kl], hasL_append hh kh, fun i hi => ?_⟩
  by_cases h1 : i < a.length
  · simp only [if_pos h1]
    have : (l ++ m).getD i undef = l.getD i undef := by
      simp only [List.getD_eq_getElem?_getD]
      rw [List.getElem?_append_left (by omega)]
    rw [this]; exact hd i h1
  · simp only [if_neg h1]
    have : (l ++ m).getD i undef = m.getD (i - a.length) undef := by
      simp only [List.getD_eq_getElem?_getD]
      rw [List.getElem?_append_right (by omega), hl]
    rw [this]
    exact kd _ (by simp at hi; omega)

section
variable {H : Type} {enc : TypeId × Value → H} {P : Program} {w : World} {spare : Nat → Bool} {held : Bool}

theorem weightsAll_get {e : TypeId} : ∀ {l : List (DataW H)} {i : Nat} {d : DataW H}, l[i]? = some d → (DataW.weightsAll P e l).all (· ≤ reachBytes) = true → (d.weights P e).all (· ≤ reachBytes) = true
  | [], _, _, h, _ => by simp at h
  | x :: l, 0, d, h, hw => by
    simp only [List.getElem?_cons_zero, Option.some.injEq] at h
    subst h
    simp only [DataW.weightsAll, List.all_append, Bool.and_eq_true] at hw
    exact hw.1
  | x :: l, i + 1, d, h, hw => by
    simp only [DataW.weightsAll, List.all_append, Bool.and_eq_true] at hw
    exact weightsAll_get (by simpa using h) hw.2

theorem cell?_at {a : Addr} {o : Nat} {v : Value} (h : w.cell? (a.add o) = some v) (h0 : o = 0 ∨ a.spot = none) :
    a.spot = none ∧ ∃ cs T fz, w.heap[a.block]? = some (.cells cs T fz) ∧ cs[a.off + o]? = some v := by
  have hs : a.spot = none ∧ (a.add o) = ⟨a.block, a.off + o, none⟩ := by
    by_cases ho : o = 0
    · subst ho
      have : a.add 0 = a := rfl
      rw [this] at h ⊢
      have : a.spot = none := by
        unfold World.cell? at h
        split at h
        · split at h
          · cases h
          · rename_i hsp; simpa using hsp
        · cases h
      exact ⟨this, by obtain ⟨b, o, s⟩ := a; simp at this; subst this; rfl⟩
    · rcases h0 with h0 | h0
      · exact (ho h0).elim
      · exact ⟨h0, by simp [Addr.add, ho]⟩
  refine ⟨hs.1, ?_⟩
  rw [hs.2] at h
  unfold World.cell? at h
  split at h
  · rename_i c T fz hb
    simp only [Option.isSome_none, Bool.false_eq_true, if_false] at h
    exact ⟨c, T, fz, hb, h⟩
  · cases h

theorem add_add (a : Addr) (m n : Nat) : (a.add m).add n = a.add (m + n) := by
  unfold Addr.add
  by_cases hm : m = 0 <;> by_cases hn : n = 0 <;> simp [hm, hn, Nat.add_assoc]

theorem reads_fields {n : Nat} (ih : ∀ {t ts fuel cs d ps}, tysOf P n t = some ts → DataW.trod enc P w 0 spare held fuel t cs = some (d, ps) → (d.weights P t).all (· ≤ reachBytes) = true → Reads (· < w.heap.size) w ts cs)
    {cs : List Value} {m : Nat} : ∀ (fl : List Field) (o : Nat) (ts : List Ty) (xs : List (DataW H × List MemPlace)), tysFields P (tysOf P n) o fl = some ts →
      (∀ (i : Nat) (f : Field), fl[i]? = some f → DataW.trod enc P w 0 spare held m f.type ((cs.drop f.offset).take (P.cellsOf f.type)) = xs[i]?) → xs.length = fl.length →
      (DataW.weightsEach P (fl.map (·.type)) (xs.map (·.1))).all (· ≤ reachBytes) = true → Reads (· < w.heap.size) w ts ((cs.drop o).take ts.length)
  | [], o, ts, xs, h, _, _, _ => by
    simp only [tysFields, Option.some.injEq] at h
    subst h
    exact ⟨fun _ => .nils, by simp, trivial, fun i hi => absurd hi (Nat.not_lt_zero i)⟩
  | f :: fl, o, ts, [], _, _, hl, _ => by simp at hl
  | f :: fl, o, ts, x :: xs, h, hx, hl, hw => by
    simp only [tysFields] at h
    split at h
    · rename_i ho
      split at h
      · rename_i a ha
        split at h
        · rename_i hal
          split at h
          · rename_i b hb
            simp only [Option.some.injEq] at h
            subst h
            simp only [List.map_cons, DataW.weightsEach, List.all_append, Bool.and_eq_true] at hw
            have h0 := hx 0 f rfl
            rw [ho, ← hal] at h0
            have r1 := ih ha (d := x.1) (ps := x.2) (by rw [h0]; rfl) hw.1
            have r2 := reads_fields ih (m := m) fl (o + a.length) b xs hb (fun i f' hf => by
              have := hx (i + 1) f' (by simpa using hf)
              simpa using this) (by simpa using hl) hw.2
            have e : (cs.drop o).take (a ++ b).length = (cs.drop o).take a.length ++ (cs.drop (o + a.length)).take b.length := by
              rw [List.length_append, List.take_add, List.drop_drop]
            rw [e]
            exact r1.append r2
          · cases h
        · cases h
      · cases h
    · cases h

theorem reads_rep {e : TypeId} {es : List Ty} {cs : List Value} (ih : ∀ {cs d ps} {fuel : Nat}, DataW.trod enc P w 0 spare held fuel e cs = some (d, ps) → (d.weights P e).all (· ≤ reachBytes) = true → Reads (· < w.heap.size) w es cs)
    {m : Nat} : ∀ (n o : Nat) (xs : List (DataW H × List MemPlace)), xs.length = n →
      (∀ (i : Nat), i < n → DataW.trod enc P w 0 spare held m e ((cs.drop (o + i * es.length)).take es.length) = xs[i]?) →
      (DataW.weightsAll P e (xs.map (·.1))).all (· ≤ reachBytes) = true → Reads (· < w.heap.size) w (tysRep es n) ((cs.drop o).take (tysRep es n).length)
  | 0, o, xs, _, _, _ => ⟨fun _ => .nils, by simp [tysRep], trivial, fun i hi => absurd hi (Nat.not_lt_zero i)⟩
  | n + 1, o, [], hl, _, _ => by simp at hl
  | n + 1, o, x :: xs, hl, hx, hw => by
    simp only [List.map_cons, DataW.weightsAll, List.all_append, Bool.and_eq_true] at hw
    have h0 := hx 0 (Nat.succ_pos n)
    rw [Nat.zero_mul, Nat.add_zero] at h0
    have r1 := ih (d := x.1) (ps := x.2) (by rw [h0]; rfl) hw.1
    have r2 := reads_rep ih (m := m) n (o + es.length) xs (by simpa using hl) (fun i hi => by
      have := hx (i + 1) (by omega)
      rw [Nat.add_mul, Nat.one_mul] at this
      rw [Nat.add_assoc, Nat.add_comm es.length]
      simpa using this) hw.2
    have e1 : (cs.drop o).take (tysRep es (n + 1)).length = (cs.drop o).take es.length ++ (cs.drop (o + es.length)).take (tysRep es n).length := by
      rw [tysRep, List.length_append, List.take_add, List.drop_drop]
    rw [e1, tysRep]
    exact r1.append r2

theorem reads : ∀ {n : Nat} {t : TypeId} {ts : List Ty} {fuel : Nat} {cs : List Value} {d : DataW H} {ps : List MemPlace}, tysOf P n t = some ts → DataW.trod enc P w 0 spare held fuel t cs = some (d, ps) →
    (d.weights P t).all (· ≤ reachBytes) = true → Reads (· < w.heap.size) w ts cs
  | 0, _, _, _, _, _, _, h, _, _ => by simp [tysOf] at h
  | n + 1, t, ts, fuel, cs, d, ps, h, hr, hw => by
    simp only [tysOf] at h
    split at h
    · rename_i k ht
      simp only [Option.some.injEq] at h
      subst h
      obtain ⟨m, rfl, _, hwf⟩ := DataW.trod_int ht hr
      refine ⟨fun _ => .int k m, rfl, ⟨⟨m, ?_, rfl⟩, trivial⟩, fun i hi => ?_⟩
      · simpa [Lit.wf, IntKind.has] using hwf
      · obtain rfl : i = 0 := by simp at hi; omega
        simp [DRel]
    · rename_i ht
      simp only [Option.some.injEq] at h
      subst h
      obtain ⟨b, rfl, _⟩ := DataW.trod_bool ht hr
      refine ⟨fun _ => .bool b, rfl, ⟨⟨b, rfl⟩, trivial⟩, fun i hi => ?_⟩
      obtain rfl : i = 0 := by simp at hi; omega
      simp [DRel]
    · rename_i ht
      simp only [Option.some.injEq] at h
      subst h
      obtain ⟨s, rfl, hx, hs⟩ := DataW.trod_string ht hr
      simp only [Prod.mk.injEq] at hx
      rw [hx.1] at hw
      refine ⟨fun _ => .str s, rfl, ⟨⟨s, rfl, ?_⟩, trivial⟩, fun i hi => ?_⟩
      · have h1 : s.data.toList.length ≤ reachBytes := List.all_eq_true.1 hw s.data.toList.length (List.mem_singleton.2 rfl) |> of_decide_eq_true
        simpa [reachBytes] using h1
      · obtain rfl : i = 0 := by simp at hi; omega
        simp [DRel]
    · rename_i e ht
      split at h
      · rename_i es hes
        split at h
        · rename_i hc
          simp only [Option.some.injEq] at h
          subst h
          rcases DataW.trod_slice ht hr with ⟨rfl, _⟩ | ⟨a, len, cap, elems, rest, m, rfl, rfl, hx, hb, hlc, hcm, hlen, hel, _, _⟩
          · refine ⟨fun _ => .seq 0 es.length fun _ _ => .nils, rfl, ⟨⟨0, _, rfl, Nat.zero_le _, fun i hi => absurd hi (Nat.not_lt_zero i)⟩, trivial⟩, fun i hi => ?_⟩
            obtain rfl : i = 0 := by simp at hi; omega
            simp only [List.getD_cons_zero, DRel]
            exact ⟨none, 0, rfl, Nat.zero_le _, Nat.zero_le _, fun h => absurd h (Nat.lt_irrefl 0)⟩
          · simp only [Prod.mk.injEq] at hx
            obtain ⟨hx, -⟩ := hx
            subst hx
            simp only [DataW.weights, ht, List.all_cons, List.all_append, Bool.and_eq_true, decide_eq_true_eq, List.length_map] at hw
            have hmax : len ≤ maxN := by
              have h1 := hw.1
              have h2 : len * 1 ≤ (elems.length + rest.length) * P.bytesOf e := Nat.mul_le_mul (by omega) hc.2.2
              unfold reachBytes at h1
              unfold maxN
              omega
            have hone : ∀ i, ∃ g : Nat → DV, i < len → Ty.hasL es g ∧ ∀ f, f < es.length → ∃ x, w.cell? (a.add (i * es.length + f)) = some x ∧ DRel (· < w.heap.size) w (g f) x := by
              intro i
              by_cases hi : i < len
              · have hi' : i < elems.length := by omega
                have h1 := hel i hi
                rw [List.getElem?_eq_getElem hi', Option.bind_eq_some_iff] at h1
                obtain ⟨cs', hcs, htr⟩ := h1
                obtain ⟨_, hl', hg'⟩ := World.cells?_some hcs
                obtain ⟨g, hgl, hgh, hgd⟩ := reads hes (d := (elems[i]).1) (ps := (elems[i]).2) htr (weightsAll_get (i := i) (by simp [List.getElem?_eq_getElem hi']) hw.2.1)
                refine ⟨g, fun _ => ⟨hgh, fun f hf => ?_⟩⟩
                have h2 := hg' f (by omega)
                rw [add_add, ← hc.1] at h2
                refine ⟨cs'.getD f undef, ?_, hgd f hf⟩
                rw [h2, List.getD_eq_getElem?_getD]
                have : f < cs'.length := by omega
                rw [List.getElem?_eq_getElem this]; rfl
              · exact ⟨fun _ => .nils, fun h => (hi h).elim⟩
            obtain ⟨g, hg⟩ := Classical.axiomOfChoice hone
            refine ⟨fun _ => .seq len es.length g, rfl, ⟨⟨len, g, rfl, hmax, fun i hi => (hg i hi).1⟩, trivial⟩, fun i hi => ?_⟩
            obtain rfl : i = 0 := by simp at hi; omega
            simp only [List.getD_cons_zero, DRel]
            refine ⟨some a, cap, rfl, hmax, hlc, fun h0 => ?_⟩
            obtain ⟨x0, hx0, _⟩ := (hg 0 h0).2 0 hc.2.1
            obtain ⟨hspot, c, T, fz, hblk, _⟩ := cell?_at hx0 (.inl (by simp))
            have hat : ∀ i f, i < len → f < es.length → ∃ x, c[a.off + (i * es.length + f)]? = some x ∧ DRel (· < w.heap.size) w (g i f) x := by
              intro i f hi hf
              obtain ⟨x, hx, hd⟩ := (hg i hi).2 f hf
              obtain ⟨_, c', T', fz', hb', hx'⟩ := cell?_at hx (.inr hspot)
              rw [hblk] at hb'
              cases hb'
              exact ⟨x, hx', hd⟩
            refine ⟨a.block, a.off, c, T, fz, ?_, ?_, hblk, ?_, fun i f hi hf => ?_⟩
            · obtain ⟨b, o, s⟩ := a
              simp at hspot
              subst hspot
              rfl
            · exact (Array.getElem?_eq_some_iff.1 hblk).1
            · obtain ⟨x, hx, _⟩ := hat (len - 1) (es.length - 1) (by omega) (by omega)
              have := (Array.getElem?_eq_some_iff.1 hx).1
              have e : (len - 1) * es.length + es.length = len * es.length := by
                rw [← Nat.succ_mul]; congr 1; omega
              omega
            · obtain ⟨x, hx, hd⟩ := hat i f hi hf
              rw [← Nat.add_assoc] at hx
              have : c.getD (a.off + i * es.length + f) undef = x := by simp [Array.getD_eq_getD_getElem?, hx]
              rw [this]; exact hd
        · cases h
      · cases h
    · rename_i fs ht
      split at h
      · rename_i l hl
        split at h
        · rename_i hc
          simp only [Option.some.injEq] at h
          subst h
          obtain ⟨xs, m, rfl, hx, hlen, hxl, hf⟩ := DataW.trod_struct ht hr
          simp only [Prod.mk.injEq] at hx
          obtain ⟨hx, -⟩ := hx
          subst hx
          simp only [DataW.weights, ht] at hw
          have := reads_fields (cs := cs) (m := m) (fun h1 h2 h3 => reads h1 h2 h3) fs.toList 0 l xs hl (fun i f hi => hf i f (by simpa using hi)) (by simpa using hxl) hw
          rw [List.drop_zero, List.take_of_length_le (by omega)] at this
          exact this
        · cases h
      · cases h
    · rename_i k e ht
      split at h
      · rename_i es hes
        split at h
        · rename_i hc
          simp only [Option.some.injEq] at h
          subst h
          obtain ⟨xs, m, rfl, hx, hlen, hxl, hf⟩ := DataW.trod_array ht hr
          simp only [Prod.mk.injEq] at hx
          obtain ⟨hx, -⟩ := hx
          subst hx
          simp only [DataW.weights, ht] at hw
          have := reads_rep (cs := cs) (m := m) (fun h2 h3 => reads hes h2 h3) k 0 xs hxl (fun i hi => by rw [Nat.zero_add, hc.1]; exact hf i hi) hw
          rw [List.drop_zero, List.take_of_length_le (by omega)] at this
          exact this
        · cases h
      · cases h
    · cases h
end

end Go.V
