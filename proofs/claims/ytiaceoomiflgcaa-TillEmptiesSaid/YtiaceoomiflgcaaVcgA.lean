/-
  A symbolic executor for the model's code, proved sound once: its state, what a state says of a world, and what a call's contract says.
-/
import Derived.Calls
import Derived.Orders
import Derived.Scope
import Derived.ScopeJumps
namespace Go.V

/-- How many elements a slice may have here. -/
def maxN : Nat := 140737488355328

/-- Data that bear no handle: whole for ever, wherever they lie. -/
inductive DV where
  | int (k : IntKind) (n : Int)
  | bool (b : Bool)
  | str (s : ByteArray)
  | flt (k : FloatKind) (b : Nat)
  | cpx (k : FloatKind) (re im : Nat)
  | nilp | nils | nili | nilf | nilm
  | emp
  | seq (n sz : Nat) (at_ : Nat → Nat → DV)

/-- Values as the executor has them. 'h': a handle: the place of a block in the state's list. -/
inductive SV where
  | junk
  | dv (d : DV)
  | ptr (h o : Nat)
  | pat (h o i n sz f : Nat)
  | pseq (n sz : Nat) (at_ : Nat → Nat → DV) (i f : Nat)
  | vec (h : Nat)
  | win (h lo n : Nat) (c : Option Nat) (sz : Nat)
  | agg (vs : List SV)
  | tup (vs : List SV)
  | fn (f : FuncId) (caps : List SV)
  | bfn (f : FuncId) (first : List SV)
  | mfn (m : String) (r : SV)
  | ifc (t : TypeId) (v : SV)
  | mp (h : Nat)
  | gp (g : Nat)

/-- What is known of a handle: its block, where in it it begins; of a vector its length, its capacity, whether it is nil. -/
structure HI where
  blk : Nat
  off : Nat
  len : Nat
  cap : Nat
  nil : Bool
  spot : Option Nat

/-- Of what is no vector. -/
def HI.plain (x : HI) : Prop := x.off = 0 ∧ x.len = 0 ∧ x.cap = 0 ∧ x.nil = false ∧ x.spot = none

/-- Where a vector begins. -/
def HI.adr (x : HI) : Option Addr := if x.nil then none else some ⟨x.blk, x.off, if x.cap = 0 then x.spot else none⟩

theorem HI.adr_some {x : HI} (h : x.nil = false) (hc : x.cap ≠ 0) : x.adr = some ⟨x.blk, x.off, none⟩ := by simp [HI.adr, h, hc]
theorem HI.adr_new (b o l c : Nat) : HI.adr ⟨b, o, l, c, false, none⟩ = some ⟨b, o, none⟩ := by simp [HI.adr]
theorem HI.adr_isNone (x : HI) : x.adr.isNone = x.nil := by
  unfold HI.adr
  cases x.nil <;> rfl

def DRel (I : Nat → Prop) (w : World) : DV → Value → Prop
  | .int k n, v => v = .int k n
  | .bool b, v => v = .bool b
  | .str s, v => v = .string s
  | .flt k b, v => v = .float k b
  | .cpx k a b, v => v = .complex k a b
  | .nilp, v => v = .pointer none
  | .nils, v => v = .slice none 0 0
  | .nili, v => v = .nilIface
  | .nilf, v => v = .nilFunc
  | .nilm, v => v = .map none
  | .emp, v => ∃ a : Option Addr, v = .slice a 0 0
  | .seq n sz at_, v => ∃ (a : Option Addr) (cap : Nat), v = .slice a n cap ∧ n ≤ maxN ∧ n ≤ cap ∧ (0 < n → ∃ b o cs T fz, a = some ⟨b, o, none⟩ ∧ I b ∧ w.heap[b]? = some (.cells cs T fz) ∧
      o + n * sz ≤ cs.size ∧ ∀ i f, i < n → f < sz → DRel I w (at_ i f) (cs.getD (o + i * sz + f) undef))

mutual
def Rel (β : Nat → HI) (N : Nat) (I : Nat → Prop) (w : World) : SV → Value → Prop
  | .junk, _ => True
  | .dv d, v => DRel I w d v
  | .ptr h o, v => h < N ∧ v = .pointer (some ⟨(β h).blk, (β h).off + o, none⟩)
  | .pat h o i n sz f, v => (h < N ∧ i < n) ∧ v = .pointer (some ⟨(β h).blk, (β h).off + o + i * sz + f, none⟩)
  | .pseq n sz at_ i f, v => i < n ∧ ∃ b o cs T fz, v = .pointer (some ⟨b, o + i * sz + f, none⟩) ∧ I b ∧ w.heap[b]? = some (.cells cs T fz) ∧
      o + n * sz ≤ cs.size ∧ ∀ i f, i < n → f < sz → DRel I w (at_ i f) (cs.getD (o + i * sz + f) undef)
  | .vec h, v => h < N ∧ v = .slice (β h).adr (β h).len (β h).cap
  | .win h lo n c sz, v => h < N ∧ n ≤ maxN ∧ ∃ a k, v = .slice a n k ∧ n ≤ k ∧ lo + k ≤ (β h).cap ∧ (∀ m, c = some m → k = m) ∧ (c = none → lo + k = (β h).cap) ∧
      (0 < k → (β h).nil = false ∧ a = some ⟨(β h).blk, (β h).off + lo * sz, none⟩)
  | .agg vs, v => ∃ cs : List Value, v = .agg cs.toArray ∧ RelL β N I w vs cs
  | .tup vs, v => ∃ cs : List Value, v = .tuple cs.toArray ∧ RelL β N I w vs cs
  | .fn f caps, v => ∃ cs : List Value, v = .func (.func f) #[] cs.toArray ∧ RelL β N I w caps cs
  | .bfn f first, v => ∃ cs : List Value, v = .func (.func f) cs.toArray #[] ∧ RelL β N I w first cs
  | .mfn m x, v => ∃ y, v = .func (.method m) #[y] #[] ∧ Rel β N I w x y
  | .ifc t x, v => ∃ y, v = .iface t y ∧ Rel β N I w x y
  | .mp h, v => h < N ∧ v = .map (some (β h).blk)
  | .gp g, v => v = .pointer (some ⟨g, 0, none⟩)
def RelL (β : Nat → HI) (N : Nat) (I : Nat → Prop) (w : World) : List SV → List Value → Prop
  | [], l => l = []
  | x :: xs, l => ∃ y ys, l = y :: ys ∧ Rel β N I w x y ∧ RelL β N I w xs ys
end

/-- A part of a block: one cell, or a row of n elements of sz cells. -/
inductive Seg where
  | one (v : SV)
  | arr (n sz : Nat) (at_ : Nat → Nat → SV)

def Seg.size : Seg → Nat
  | .one _ => 1
  | .arr n sz _ => n * sz

/-- What is owned behind a handle. 'O': the objects of the program at hand. -/
inductive Chunk (O : Type) where
  | gone
  | blk (ss : List Seg)
  | vec (n sz : Nat) (at_ : Nat → Nat → SV)
  | mset (n : Nat) (has : List Int → Bool)
  | obj (o : O)

/-- A key of whole numbers. -/
def ikey (l : List Int) : Value := .agg (l.map (Value.int .i64)).toArray

/-- Objects: what each says of the world from the block at which it stands; it hangs on its own blocks and on what is whole for ever alone. -/
class Objs (O : Type) where
  sat : O → Nat → World → (I : Nat → Prop) → (F : Nat → Prop) → Prop
  mono : ∀ {o b w w' I I' F}, sat o b w I F → (∀ k, I k → I' k) → (∀ k, I k ∨ F k → w'.heap[k]? = w.heap[k]?) → sat o b w' I' F
  congr : ∀ {o b w I F F'}, sat o b w I F → (∀ k, F k ↔ F' k) → sat o b w I F'
  gd : Nat → Option (Nat × Nat × (Nat → Nat → DV))

def SegsSat (β : Nat → HI) (N : Nat) (I : Nat → Prop) (w : World) (cs : Array Value) : Nat → List Seg → Prop
  | off, [] => cs.size = off
  | off, .one v :: r => (∃ x, cs[off]? = some x ∧ Rel β N I w v x) ∧ SegsSat β N I w cs (off + 1) r
  | off, .arr n sz at_ :: r => (∀ i f, i < n → f < sz → ∃ x, cs[off + i * sz + f]? = some x ∧ Rel β N I w (at_ i f) x) ∧ SegsSat β N I w cs (off + n * sz) r

variable {O : Type} [Objs O]

def CSat (β : Nat → HI) (N : Nat) (I : Nat → Prop) (w : World) (h : Nat) (F : Nat → Prop) : Chunk O → Prop
  | .gone => ∀ b, ¬ F b
  | .blk ss => (∀ b, F b ↔ b = (β h).blk) ∧ (β h).plain ∧ ∃ cs T, w.heap[(β h).blk]? = some (.cells cs T (0, 0)) ∧ SegsSat β N I w cs 0 ss
  | .vec n sz at_ => (β h).len = n ∧ n ≤ maxN ∧ n ≤ (β h).cap ∧ ((β h).nil = true → (β h).cap = 0) ∧ (if (β h).cap = 0 then ∀ b, ¬ F b else
      (∀ b, F b ↔ b = (β h).blk) ∧ ∃ cs T, w.heap[(β h).blk]? = some (.cells cs T (0, 0)) ∧ (β h).off + (β h).cap * sz ≤ cs.size ∧
        ∀ i f, i < n → f < sz → ∃ x, cs[(β h).off + i * sz + f]? = some x ∧ Rel β N I w (at_ i f) x ∧ x.oneCell' = true)
  | .mset n has => (∀ b, F b ↔ b = (β h).blk) ∧ (β h).plain ∧ ∃ es clock, w.heap[(β h).blk]? = some (.map es clock) ∧
      (∀ e ∈ es.toList, e.val = .agg #[] ∧ ∃ l : List Int, l.length = n ∧ (∀ x ∈ l, IntKind.i64.has x) ∧ e.key = ikey l ∧ has l = true) ∧ ∀ l, has l = true → ∃ e ∈ es.toList, e.key = ikey l
  | .obj o => (β h).plain ∧ Objs.sat o (β h).blk w I F

/-- The program's own tables: whole for ever, with what they hold. -/
def Tabs (T : Nat → Option (Nat × Nat × (Nat → Nat → DV))) (I : Nat → Prop) (w : World) : Prop := ∀ g n sz at_, T g = some (n, sz, at_) → I g ∧ ∃ cs ty fz, w.heap[g]? = some (.cells cs ty fz) ∧
  cs.size = n * sz ∧ ∀ i f, i < n → f < sz → DRel I w (at_ i f) (cs.getD (i * sz + f) undef)

/-- The owned memory. -/
structure MSat (β : Nat → HI) (I : Nat → Prop) (w : World) (F : Nat → Nat → Prop) (mem : List (Chunk O)) : Prop where
  chunk : ∀ h c, mem[h]? = some c → CSat β mem.length I w h (F h) c
  apart : ∀ h h' b, F h b → F h' b → h = h'
  none : ∀ h b, mem.length ≤ h → ¬ F h b
  old : ∀ h b, F h b → b < w.heap.size ∧ ¬ I b
  wh : (∀ b, I b → b < w.heap.size) ∧ Tabs (Objs.gd O) I w

theorem MSat.whole {β : Nat → HI} {I : Nat → Prop} {w : World} {F : Nat → Nat → Prop} {mem : List (Chunk O)} (h : MSat β I w F mem) : ∀ b, I b → b < w.heap.size := h.wh.1

/-- From world w, in which the blocks F were owned and the blocks I whole for ever, to world w'. -/
structure Went (w : World) (F I : Nat → Prop) (w' : World) (F' I' : Nat → Prop) : Prop where
  os : w'.os = w.os
  tape : w'.tape = w.tape
  output : w'.output = w.output
  size : w.heap.size ≤ w'.heap.size
  same : ∀ b, b < w.heap.size → ¬ F b → w'.heap[b]? = w.heap[b]?
  frozen : ∀ a, a.block < w.heap.size → w'.frozen? a = w.frozen? a
  keep : ∀ b, I b → I' b
  ownd : ∀ b, F' b → F b ∨ w.heap.size ≤ b
  whole : ∀ b, I' b → I b ∨ F b ∨ w.heap.size ≤ b

/-- The contract of a call: from values and owned memory to a result and owned memory. -/
def CallOK (P : Program) (f : FuncId) (args : List SV) (mem : List (Chunk O)) (Q : SV → List (Chunk O) → Prop) : Prop :=
  ∀ (β : Nat → HI) (I : Nat → Prop) (w : World) (F : Nat → Nat → Prop) (vs : List Value), MSat β I w F mem → RelL β mem.length I w args vs →
    Calls P f vs.toArray w fun e w' => ∃ v β' I' F' sv mem', e = .returned v ∧ Went w (fun b => ∃ h, F h b) I w' (fun b => ∃ h, F' h b) I' ∧
      (∀ h, h < mem.length → β' h = β h) ∧ mem.length ≤ mem'.length ∧ MSat β' I' w' F' mem' ∧ Rel β' mem'.length I' w' sv v ∧ Q sv mem'

structure St (O : Type) where
  env : List SV
  mem : List (Chunk O)

/-- Where a body began: the world, the owned blocks, what was whole, the handles that the caller knows. -/
structure Fr where
  w : World
  F : Nat → Prop
  I : Nat → Prop
  β : Nat → HI
  n : Nat

/-- What a state says of a frame's temporaries and of a world. -/
structure Sat (fr : Fr) (s : St O) (a : Act) (w : World) : Prop where
  defers : a.defers = []
  ex : ∃ β I F, MSat β I w F s.mem ∧ RelL β s.mem.length I w s.env a.tmps.toList ∧ Went fr.w fr.F fr.I w (fun b => ∃ h, F h b) I ∧ (∀ h, h < fr.n → β h = fr.β h) ∧ fr.n ≤ s.mem.length

/-! ### Whatever is whole stays so -/
theorem DRel.mono {I I' : Nat → Prop} {w w' : World} (hI : ∀ k, I k → I' k) (hw : ∀ k, I k → w'.heap[k]? = w.heap[k]?) : ∀ {d v}, DRel I w d v → DRel I' w' d v
  | .int .., _, h | .bool .., _, h | .str .., _, h | .flt .., _, h | .cpx .., _, h | .nilp, _, h | .nils, _, h | .nili, _, h | .nilf, _, h | .nilm, _, h | .emp, _, h => by
    simpa only [DRel] using h
  | .seq n sz at_, v, h => by
    simp only [DRel] at h ⊢
    obtain ⟨a, cap, hv, hn, hcap, h⟩ := h
    refine ⟨a, cap, hv, hn, hcap, fun h0 => ?_⟩
    obtain ⟨b, o, cs, T, fz, ha, hb, hc, hs, hr⟩ := h h0
    exact ⟨b, o, cs, T, fz, ha, hI _ hb, (hw _ hb).trans hc, hs, fun i f hi hf => DRel.mono hI hw (hr i f hi hf)⟩

theorem Tabs.mono {T : Nat → Option (Nat × Nat × (Nat → Nat → DV))} {I I' : Nat → Prop} {w w' : World} (h : Tabs T I w) (hI : ∀ k, I k → I' k) (hw : ∀ k, I k → w'.heap[k]? = w.heap[k]?) : Tabs T I' w' := by
  intro g n sz at_ hg
  obtain ⟨h1, cs, ty, fz, h2, h3, h4⟩ := h g n sz at_ hg
  exact ⟨hI g h1, cs, ty, fz, (hw g h1).trans h2, h3, fun i f hi hf => (h4 i f hi hf).mono hI hw⟩

mutual
theorem Rel.mono {β β' : Nat → HI} {N N' : Nat} {I I' : Nat → Prop} {w w' : World} (hβ : ∀ h, h < N → β' h = β h) (hN : N ≤ N') (hI : ∀ k, I k → I' k)
    (hw : ∀ k, I k → w'.heap[k]? = w.heap[k]?) : ∀ {s v}, Rel β N I w s v → Rel β' N' I' w' s v
  | .junk, _, _ => by simp only [Rel]
  | .gp _, _, h => by simpa only [Rel] using h
  | .dv d, _, h => by simp only [Rel] at h ⊢; exact h.mono hI hw
  | .pat .., _, h => by
    simp only [Rel] at h ⊢
    obtain ⟨⟨hn, hi⟩, h⟩ := h
    rw [hβ _ hn]
    exact ⟨⟨Nat.lt_of_lt_of_le hn hN, hi⟩, h⟩
  | .ptr .., _, h | .vec .., _, h | .win .., _, h | .mp .., _, h => by
    simp only [Rel] at h ⊢
    obtain ⟨hn, h⟩ := h
    rw [hβ _ hn] <;> try exact ⟨Nat.lt_of_lt_of_le hn hN, h⟩
  | .pseq n sz at_ i f, v, h => by
    simp only [Rel] at h ⊢
    obtain ⟨hi, b, o, cs, T, fz, ha, hb, hc, hs, hr⟩ := h
    exact ⟨hi, b, o, cs, T, fz, ha, hI _ hb, (hw _ hb).trans hc, hs, fun i f hi hf => DRel.mono hI hw (hr i f hi hf)⟩
  | .agg vs, v, h => by simp only [Rel] at h ⊢; obtain ⟨cs, hv, h⟩ := h; exact ⟨cs, hv, RelL.mono hβ hN hI hw h⟩
  | .tup vs, v, h => by simp only [Rel] at h ⊢; obtain ⟨cs, hv, h⟩ := h; exact ⟨cs, hv, RelL.mono hβ hN hI hw h⟩
  | .fn f vs, v, h => by simp only [Rel] at h ⊢; obtain ⟨cs, hv, h⟩ := h; exact ⟨cs, hv, RelL.mono hβ hN hI hw h⟩
  | .bfn f vs, v, h => by simp only [Rel] at h ⊢; obtain ⟨cs, hv, h⟩ := h; exact ⟨cs, hv, RelL.mono hβ hN hI hw h⟩
  | .mfn t x, v, h => by simp only [Rel] at h ⊢; obtain ⟨y, hv, h⟩ := h; exact ⟨y, hv, Rel.mono hβ hN hI hw h⟩
  | .ifc t x, v, h => by simp only [Rel] at h ⊢; obtain ⟨y, hv, h⟩ := h; exact ⟨y, hv, Rel.mono hβ hN hI hw h⟩
theorem RelL.mono {β β' : Nat → HI} {N N' : Nat} {I I' : Nat → Prop} {w w' : World} (hβ : ∀ h, h < N → β' h = β h) (hN : N ≤ N') (hI : ∀ k, I k → I' k)
    (hw : ∀ k, I k → w'.heap[k]? = w.heap[k]?) : ∀ {s l}, RelL β N I w s l → RelL β' N' I' w' s l
  | [], _, h => by simpa only [RelL] using h
  | x :: xs, l, h => by
    simp only [RelL] at h ⊢
    obtain ⟨y, ys, hl, hx, hxs⟩ := h
    exact ⟨y, ys, hl, Rel.mono hβ hN hI hw hx, RelL.mono hβ hN hI hw hxs⟩
end

theorem SegsSat.mono {β β' : Nat → HI} {N N' : Nat} {I I' : Nat → Prop} {w w' : World} (hβ : ∀ h, h < N → β' h = β h) (hN : N ≤ N') (hI : ∀ k, I k → I' k)
    (hw : ∀ k, I k → w'.heap[k]? = w.heap[k]?) {cs : Array Value} : ∀ {ss off}, SegsSat β N I w cs off ss → SegsSat β' N' I' w' cs off ss
  | [], _, h => h
  | .one _ :: _, _, h => ⟨let ⟨x, hx, hr⟩ := h.1; ⟨x, hx, hr.mono hβ hN hI hw⟩, SegsSat.mono hβ hN hI hw h.2⟩
  | .arr _ _ _ :: _, _, h => ⟨fun i f hi hf => let ⟨x, hx, hr⟩ := h.1 i f hi hf; ⟨x, hx, hr.mono hβ hN hI hw⟩, SegsSat.mono hβ hN hI hw h.2⟩

theorem CSat.mono {β β' : Nat → HI} {N N' : Nat} {I I' : Nat → Prop} {w w' : World} {h : Nat} {F : Nat → Prop} (hh : h < N) (hβ : ∀ h, h < N → β' h = β h) (hN : N ≤ N')
    (hI : ∀ k, I k → I' k) (hw : ∀ k, I k ∨ F k → w'.heap[k]? = w.heap[k]?) : ∀ {c : Chunk O}, CSat β N I w h F c → CSat β' N' I' w' h F c := by
  have hwI : ∀ k, I k → w'.heap[k]? = w.heap[k]? := fun k hk => hw k (.inl hk)
  intro c hc
  cases c with
  | gone => exact hc
  | blk ss =>
    simp only [CSat, hβ h hh] at hc ⊢
    obtain ⟨hF, ho, cs, T, hb, hs⟩ := hc
    exact ⟨hF, ho, cs, T, (hw _ (.inr ((hF _).2 rfl))).trans hb, hs.mono hβ hN hI hwI⟩
  | vec n sz at_ =>
    simp only [CSat, hβ h hh] at hc ⊢
    obtain ⟨hl, hn, hcap, hnil, hc⟩ := hc
    refine ⟨hl, hn, hcap, hnil, ?_⟩
    split
    · rename_i h0; simpa only [h0, if_true] using hc
    · rename_i h0
      simp only [h0, if_false] at hc
      obtain ⟨hF, cs, T, hb, hs, hr⟩ := hc
      exact ⟨hF, cs, T, (hw _ (.inr ((hF _).2 rfl))).trans hb, hs, fun i f hi hf => let ⟨x, hx, hr, h1⟩ := hr i f hi hf; ⟨x, hx, hr.mono hβ hN hI hwI, h1⟩⟩
  | mset n has =>
    simp only [CSat, hβ h hh] at hc ⊢
    obtain ⟨hF, hp, es, cl, hb, h1, h2⟩ := hc
    exact ⟨hF, hp, es, cl, (hw _ (.inr ((hF _).2 rfl))).trans hb, h1, h2⟩
  | obj o =>
    simp only [CSat, hβ h hh] at hc ⊢
    exact ⟨hc.1, Objs.mono hc.2 hI hw⟩

theorem Went.refl (w : World) (F I : Nat → Prop) : Went w F I w F I :=
  ⟨rfl, rfl, rfl, Nat.le_refl _, fun _ _ _ => rfl, fun _ _ => rfl, fun _ h => h, fun _ h => .inl h, fun _ h => .inl h⟩

theorem Went.trans {w w1 w2 : World} {F I F1 I1 F2 I2 : Nat → Prop} (h : Went w F I w1 F1 I1) (k : Went w1 F1 I1 w2 F2 I2) : Went w F I w2 F2 I2 where
  os := k.os.trans h.os
  tape := k.tape.trans h.tape
  output := k.output.trans h.output
  size := Nat.le_trans h.size k.size
  same b hb hF := (k.same b (Nat.lt_of_lt_of_le hb h.size) fun hF1 => (h.ownd b hF1).elim hF fun h' => by omega).trans (h.same b hb hF)
  frozen a ha := (k.frozen a (Nat.lt_of_lt_of_le ha h.size)).trans (h.frozen a ha)
  keep b hb := k.keep b (h.keep b hb)
  ownd b hb := (k.ownd b hb).elim (h.ownd b) fun h' => .inr (Nat.le_trans h.size h')
  whole b hb := (k.whole b hb).elim (h.whole b) fun h' => h'.elim (fun h' => (h.ownd b h').elim (fun h' => .inr (.inl h')) fun h' => .inr (.inr h')) fun h' => .inr (.inr (Nat.le_trans h.size h'))

end Go.V
