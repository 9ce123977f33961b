/-
  Walks: one step of the search.
-/
import Derived.Test.YtophlodlencgiaaOrdD
namespace Go.Proofs.Ytophlodlencgiaa
open Go.V

/-- A row of names. -/
def nm (l : List Nat) : Nat → Nat → SV := fun j _ => .dv (.int .i64 ((l.getD j 0 : Nat) : Int))

def cmem (n : Nat) (GS : Nat → Nat → DV) (k : Nat) (GT : Nat → Nat → DV) (room : Int) (p : Nat) (L : Nat → DV) (pu go ba : Int) (has : List Int → Bool) : List (Chunk Ob) :=
  [.blk (sblk n GS k GT room), .mset 2 has, .vec p 1 (fun j _ => .dv (L j)), .blk [.one (.ptr 0 0)], .blk [.one (.dv (.int .i64 pu)), .one (.dv (.int .i64 go)), .one (.dv (.int .i64 ba))]]

/-- What the search from a place on tells. -/
def fromQ (n : Nat) (GS : Nat → Nat → DV) (k : Nat) (GT : Nat → Nat → DV) (room : Int) (p : Nat) (L : Nat → DV) (o : Option (List Nat)) (q : (List Int → Bool) → Prop) (r : SV) (m : List (Chunk Ob)) : Prop :=
  (∃ l has, o = some l ∧ r = .tup [.vec 3, .dv (.bool true)] ∧ m = smem n GS k GT room has p L ++ [.vec l.length 1 (nm l.reverse)]) ∨
  (∃ has, o = none ∧ r = .tup [.dv .nils, .dv (.bool false)] ∧ m = smem n GS k GT room has p L ∧ q has) ∨
  (∃ has, o = some [] ∧ r = .tup [.dv .nils, .dv (.bool true)] ∧ m = smem n GS k GT room has p L)

theorem nm_app (l : List Nat) (c : Nat) (name : Int) (hc : name = (c : Int)) (i f : Nat) (hi : i < l.length + 1) (hf : f < 1) :
    appAt std l.length (nm l.reverse) (listAt 1 [.dv (.int .i64 name)]) i f = nm (c :: l).reverse i f := by
  obtain rfl : f = 0 := by omega
  simp only [appAt, nm, List.reverse_cons]
  by_cases h : i < l.length
  · rw [if_pos h]
    rw [List.getD_eq_getElem?_getD, List.getD_eq_getElem?_getD, List.getElem?_append_left (by simpa using h)]
  · obtain rfl : i = l.length := by omega
    rw [if_neg h]
    simp [std, listAt, lget, hc]

set_option maxHeartbeats 4000000 in
theorem ok_go1 (n : Nat) (GS : Nat → Nat → DV) (k : Nat) (GT : Nat → Nat → DV) (room : Int) (has : List Int → Bool) (p : Nat) (lm : Nat → Nat) (lg : Nat → Nat → Nat → DV) (lx : Nat → Nat → Int)
    (hl : ∀ j, j < p → ∀ i, i < lm j → lg j i 0 = .int .i64 (lx j i)) (hp : p ≤ maxN) (pu go ba : Int) (hpu : pu.toNat ≤ p) (h0 : 0 ≤ ba) (h1 : ba ≤ go) (h2 : go ≤ pu)
    (a0 a1 kd a3 en er : Int) (m : Nat) (g : Nat → Nat → DV) (x : Nat → Int) (hg : ∀ i, i < m → g i 0 = .int .i64 (x i)) (a7 : Int) (i' j' name : Int) (c : Nat) (hname : name = c)
    (pu' go' ba' : Int) (v : Bool) (hv : ((pu', go', ba'), v) = doesI room pu go ba kd en er (sameW (lm go.toNat) (lx go.toNat) m x)) (o : Option (List Nat)) (q : (List Int → Bool) → Prop) (hlen : ∀ l, o = some l → l.length < 1000)
    (hfrom : v = true → CallOK PR n_order_search_from [.ptr 0 0, .agg [.dv (.int .i64 i'), .dv (.int .i64 j')], .agg [.dv (.int .i64 pu'), .dv (.int .i64 go'), .dv (.int .i64 ba')]] (smem n GS k GT room has p fun j => .seq (lm j) 1 (lg j))
      (fromQ n GS k GT room p (fun j => .seq (lm j) 1 (lg j)) o q)) :
    CallOK PR n_order_search_from_c1 [.agg [.dv (.int .i64 a0), .dv (.int .i64 a1), .dv (.int .i64 kd), .dv (.int .i64 a3), .dv (.int .i64 en), .dv (.int .i64 er), .dv (.seq m 1 g), .dv (.int .i64 a7)],
        .agg [.dv (.int .i64 i'), .dv (.int .i64 j')], .dv (.int .i64 name), .ptr 3 0, .ptr 4 0] (cmem n GS k GT room p (fun j => .seq (lm j) 1 (lg j)) pu go ba has)
      fun r m => (∃ l has', v = true ∧ o = some l ∧ r = .tup [.vec 5, .dv (.bool true)] ∧ m = cmem n GS k GT room p (fun j => .seq (lm j) 1 (lg j)) pu go ba has' ++ [.vec (l.length + 1) 1 (nm (c :: l).reverse)]) ∨
        (∃ has', r = .tup [.junk, .dv (.bool false)] ∧ m = cmem n GS k GT room p (fun j => .seq (lm j) 1 (lg j)) pu go ba has' ∧ ((v = false ∧ has' = has) ∨ (v = true ∧ o = none ∧ q has'))) := by
  refine fn_walk2 mixed fn_order_search_from_c1 (Ent.refl _ _) fun A P hA hP Q hQ => ?_
  have hdoes := ok_does n GS k GT room has p lm lg lx hl hp pu go ba hpu h0 h1 h2 a0 a1 kd a3 en er m g x hg a7
  rw [← hv] at hdoes
  clear hl hpu h0 h1 h2 hg
  have eF : ∀ (u : SV) (rest : List (Chunk Ob)) (has' : List Int → Bool), ((v = false ∧ has' = has) ∨ (v = true ∧ o = none ∧ q has')) →
      Q (.tup [u, .dv (.bool false)]) (cmem n GS k GT room p (fun j => .seq (lm j) 1 (lg j)) pu go ba has' ++ rest) := by
    intro u rest has' h
    subst hQ
    exact ⟨.tup [.junk, .dv (.bool false)], cmem n GS k GT room p (fun j => .seq (lm j) 1 (lg j)) pu go ba has', (Ent.weak1 (.tup (.cons (.junk _) (.cons (.same _) .nil)))).trans
      (Ent.ren [0, 1, 2, 3, 4] rfl rfl ⟨⟨rfl, rfl, rfl, rfl, rfl, trivial⟩, rfl, ⟨rfl, rfl, fun _ _ _ _ => rfl⟩, ⟨rfl, trivial⟩, ⟨rfl, rfl, rfl, trivial⟩, trivial⟩ ⟨rfl, trivial⟩), .inr ⟨has', rfl, rfl, h⟩⟩
  have eT : ∀ (b0 b1 b2 b3 b4 : Chunk Ob) (l : List Nat) (at_ : Nat → Nat → SV) (N : Nat) (has' : List Int → Bool), v = true → o = some l → N = l.length + 1 → (∀ i f, i < l.length + 1 → f < 1 → at_ i f = nm (c :: l).reverse i f) →
      Q (.tup [.vec 10, .dv (.bool true)]) (cmem n GS k GT room p (fun j => .seq (lm j) 1 (lg j)) pu go ba has' ++ [b0, b1, b2, b3, b4, .vec N 1 at_]) := by
    intro b0 b1 b2 b3 b4 l at_ N has' h1 h2 h3 h4
    subst hQ h3
    refine ⟨.tup [.vec 5, .dv (.bool true)], cmem n GS k GT room p (fun j => .seq (lm j) 1 (lg j)) pu go ba has' ++ [(Chunk.vec (l.length + 1) 1 (nm (c :: l).reverse) : Chunk Ob)], Ent.ren (s' := ⟨[.tup [.vec 5, .dv (.bool true)]], cmem n GS k GT room p (fun j => .seq (lm j) 1 (lg j)) pu go ba has' ++ [(Chunk.vec (l.length + 1) 1 (nm (c :: l).reverse) : Chunk Ob)]⟩) [0, 1, 2, 3, 4, 10] rfl rfl ⟨⟨rfl, rfl, rfl, rfl, rfl, trivial⟩, rfl, ⟨rfl, rfl, fun _ _ _ _ => rfl⟩, ⟨rfl, trivial⟩, ⟨rfl, rfl, rfl, trivial⟩, ⟨rfl, rfl, fun i f hi hf => by
      show VLe _ (at_ i f) (nm (c :: l).reverse i f)
      rw [h4 i f hi hf]; rfl⟩, trivial⟩ ⟨rfl, trivial⟩, .inl ⟨l, has', h1, h2, rfl, rfl⟩⟩
  have eT2 : ∀ (b0 b1 b2 b3 : Chunk Ob) (l : List Nat) (at_ : Nat → Nat → SV) (N : Nat) (has' : List Int → Bool), v = true → o = some l → N = l.length + 1 → (∀ i f, i < l.length + 1 → f < 1 → at_ i f = nm (c :: l).reverse i f) →
      Q (.tup [.vec 9, .dv (.bool true)]) (cmem n GS k GT room p (fun j => .seq (lm j) 1 (lg j)) pu go ba has' ++ [b0, b1, b2, b3, .vec N 1 at_]) := by
    intro b0 b1 b2 b3 l at_ N has' h1 h2 h3 h4
    subst hQ h3
    refine ⟨.tup [.vec 5, .dv (.bool true)], cmem n GS k GT room p (fun j => .seq (lm j) 1 (lg j)) pu go ba has' ++ [(Chunk.vec (l.length + 1) 1 (nm (c :: l).reverse) : Chunk Ob)], Ent.ren (s' := ⟨[.tup [.vec 5, .dv (.bool true)]], cmem n GS k GT room p (fun j => .seq (lm j) 1 (lg j)) pu go ba has' ++ [(Chunk.vec (l.length + 1) 1 (nm (c :: l).reverse) : Chunk Ob)]⟩) [0, 1, 2, 3, 4, 9] rfl rfl ⟨⟨rfl, rfl, rfl, rfl, rfl, trivial⟩, rfl, ⟨rfl, rfl, fun _ _ _ _ => rfl⟩, ⟨rfl, trivial⟩, ⟨rfl, rfl, rfl, trivial⟩, ⟨rfl, rfl, fun i f hi hf => by
      show VLe _ (at_ i f) (nm (c :: l).reverse i f)
      rw [h4 i f hi hf]; rfl⟩, trivial⟩ ⟨rfl, trivial⟩, .inl ⟨l, has', h1, h2, rfl, rfl⟩⟩
  clear hQ hv
  cbv
  refine call_at hP [0, 1, 2] code_order_search_does hdoes rfl ⟨⟨rfl, rfl, rfl, rfl, rfl, trivial⟩, rfl, ⟨rfl, rfl, fun _ _ _ _ => rfl⟩, trivial⟩ ⟨rfl, rfl, rfl, trivial⟩ ?_
  rintro _ _ ⟨⟨pu1, go1, ba1, v1, hdv, rfl⟩, rfl⟩ _
  simp only [Prod.mk.injEq] at hdv
  obtain ⟨⟨rfl, rfl, rfl⟩, rfl⟩ := hdv
  clear hdoes
  cbv
  refine bc_split (fun d1 => ?_) (fun d1 => ?_)
  · have e1 : v1 = false := by subst hA; simpa [std] using d1
    cbv
    exact eF _ _ has (.inl ⟨e1, rfl⟩)
  · have e1 : v1 = true := by subst hA; simpa [std] using d1
    cbv
    refine call_at hP [0, 1, 2] code_order_search_from (hfrom e1) rfl ⟨⟨rfl, rfl, rfl, rfl, rfl, trivial⟩, rfl, ⟨rfl, rfl, fun _ _ _ _ => rfl⟩, trivial⟩ ⟨rfl, rfl, rfl, trivial⟩ ?_
    rintro _ _ (⟨l, has', ho, rfl, rfl⟩ | ⟨has', ho, rfl, rfl, hq⟩ | ⟨has', ho, rfl, rfl⟩) _
    · have hroom : A.room (A.add l.length 1) 8 := by have := hlen l ho; subst hA; simp [std, maxN]; omega
      have hlen' : A.add l.length 1 = l.length + 1 := by subst hA; simp [std]
      have hat : ∀ i f, i < l.length + 1 → f < 1 → appAt A l.length (nm l.reverse) (listAt 1 [.dv (.int .i64 name)]) i f = nm (c :: l).reverse i f := by subst hA; exact nm_app l c name hname
      have hN1 : ∀ σ i f, renV σ (nm l.reverse i f) = nm l.reverse i f := fun _ _ _ => rfl
      generalize nm l.reverse = N1 at *
      generalize hL : l.length = L at *
      cbv
      refine ⟨hroom, ?_⟩
      cbv
      exact eT _ _ _ _ _ l _ _ has' e1 ho (by rw [hL]; exact hlen') (fun i f hi hf => by simp only [hN1]; rw [hL] at hi; exact hat i f hi hf)
    · have hroom : A.room 1 8 := by subst hA; simp [std, maxN]
      cbv
      refine ⟨hroom, ?_⟩
      cbv
      exact eF _ _ has' (.inr ⟨e1, ho, hq⟩)
    · have hroom : A.room 1 8 := by subst hA; simp [std, maxN]
      cbv
      refine ⟨hroom, ?_⟩
      cbv
      refine eT2 _ _ _ _ [] _ 1 has' e1 ho rfl (fun i f hi hf => ?_)
      obtain rfl : i = 0 := by simp at hi; omega
      obtain rfl : f = 0 := by omega
      show SV.dv (.int .i64 name) = nm [c] 0 0
      rw [hname]; rfl

end Go.Proofs.Ytophlodlencgiaa
