/-
  Calls ahead of which a vector becomes whole for ever.
-/
import Derived.Test.YtiaceoomiflgcaaVcgU
namespace Go.V
variable {O : Type} [Objs O]

theorem RelL.get' {β : Nat → HI} {N : Nat} {I : Nat → Prop} {w : World} : ∀ {s : List SV} {l : List Value} {i : Nat} {v : SV}, RelL β N I w s l → lget s i = some v → ∃ x, l[i]? = some x ∧ Rel β N I w v x
  | [], _, _, _, _, h => by simp [lget] at h
  | y :: s, l, 0, v, h, hv => by
    simp only [RelL] at h
    obtain ⟨z, zs, rfl, h1, h2⟩ := h
    simp only [lget, Option.some.injEq] at hv
    subst hv
    exact ⟨z, rfl, h1⟩
  | y :: s, l, i + 1, v, h, hv => by
    simp only [RelL] at h
    obtain ⟨z, zs, rfl, h1, h2⟩ := h
    have h3 : lget s i = some v := hv
    have := RelL.get' h2 h3
    simpa using this

/-- A nil slice among the temporaries is seen as a vector of its own, without elements. -/
theorem Ent.nilv {n : Nat} {env : List SV} {mem : List (Chunk O)} (i sz : Nat) (at_ : Nat → Nat → SV) (hv : lget env i = some (.dv .nils)) :
    Ent n ⟨env, mem⟩ ⟨lset env i (.vec mem.length), mem ++ [.vec 0 sz at_]⟩ := by
  rintro fr a w rfl ⟨hd, β, I, F, hm, hE, hW, hB, hN⟩
  have hm : MSat β I w F mem := hm
  have hE : RelL β mem.length I w env a.tmps.toList := hE
  have hN : fr.n ≤ mem.length := hN
  let hi : HI := ⟨0, 0, 0, 0, true, none⟩
  have hadd : MSat (fup β mem.length hi) I w (fup F mem.length fun _ => False) (mem ++ [.vec 0 sz at_]) := by
    refine hm.add (Nat.le_refl _) (fun _ _ => rfl) (fun b hb => hb.elim) ?_
    simp only [CSat, fup_eq]
    exact ⟨rfl, Nat.zero_le _, Nat.zero_le _, fun _ => rfl, fun b hb => hb⟩
  have hE2 : RelL (fup β mem.length hi) (mem ++ [Chunk.vec 0 sz at_]).length I w env a.tmps.toList := by
    rw [List.length_append]
    exact hE.mono (fun _ hh => fup_lt hh) (Nat.le_add_right _ _) (fun _ h => h) (fun _ _ => rfl)
  obtain ⟨x, hx, hr⟩ := RelL.get' hE hv
  simp only [Rel, DRel] at hr
  subst hr
  refine ⟨hd, _, I, _, hadd, ?_, ?_, fun k hk => ?_, ?_⟩
  · have h1 := hE2.set (i := i) (v := .vec mem.length) (x := .slice none 0 0) (by
      simp only [Rel, fup_eq, List.length_append, List.length_singleton]
      exact ⟨Nat.lt_succ_self _, rfl⟩)
    have e : a.tmps.toList.set i (.slice none 0 0) = a.tmps.toList := by
      apply List.ext_getElem?
      intro k
      rw [List.getElem?_set]
      split
      · rename_i hk
        subst hk
        split
        · exact hx.symm
        · rename_i hlt
          rw [List.getElem?_eq_none (by omega)]
      · rfl
    rw [e] at h1
    exact h1
  · exact hW.trans (Went.add (fun b hb => hm.none _ b (Nat.le_refl _) hb) rfl rfl rfl (Nat.le_refl _) (fun _ _ => rfl) (fun b hb => hb.elim) fun _ => rfl)
  · rw [fup_lt (Nat.lt_of_lt_of_le hk hN)]; exact hB k hk
  · show fr.n ≤ (mem ++ [Chunk.vec 0 sz at_]).length
    rw [List.length_append]; omega

inductive SegsW : List Seg → List Seg → Prop where
  | nil : SegsW [] []
  | one {v u : SV} {l r : List Seg} (h : WLe v u) (k : SegsW l r) : SegsW (.one v :: l) (.one u :: r)
  | same {x : Seg} {l r : List Seg} (k : SegsW l r) : SegsW (x :: l) (x :: r)

theorem SegsW.sat {β : Nat → HI} {N : Nat} {I : Nat → Prop} {w : World} {cs : Array Value} {l r : List Seg} (h : SegsW l r) : ∀ {off : Nat}, SegsSat β N I w cs off l → SegsSat β N I w cs off r := by
  induction h with
  | nil => exact fun h => h
  | one h _ ih => exact fun ⟨⟨x, hx, hr⟩, k⟩ => ⟨⟨x, hx, h.rel hr⟩, ih k⟩
  | @same x l r _ ih =>
    intro off k
    cases x with
    | one v => exact ⟨k.1, ih k.2⟩
    | arr n sz at_ => exact ⟨k.1, ih k.2⟩

/-- A loop that counts. -/
theorem loop_nat {O : Type} [Objs O] {P P' : Program} (hm : P.follows .mixedOrders = true) (hP : P' = P) {A : Ar} (hA : A = std) {n : Nat} {b : IC} {s : St O} {K : Ex → St O → Prop} (N : Nat) (p : Nat → Prop) (Inv : Nat → St O) (p0 : p 0)
    (h0 : Ent n s (Inv 0)) (round : ∀ (J : St O) (i : Nat), J = Inv (i + 1) → i ≤ N → p i → vC A P' n b (Inv i) fun e s' => (match e with
      | .normal => i < N ∧ p (i + 1) ∧ Ent n s' J
      | .exit l => K (.exit l) s'
      | .goto l => K (.goto l) s'
      | .ret => K .ret s')) : LoopVC P' n b s K := by
  subst hA hP
  refine ⟨fun c hc fr a w hn hs bf k cs => ?_⟩
  have key : ∀ m i a w, N - i = m → i ≤ N → p i → Sat fr (Inv i) a w → ∃ e a' w', Post fr K e a' w' ∧ Arrives P' (lone (bf.at a (.code c :: .inLoop c :: k)) cs w) bf k cs e a' w' := by
    intro m
    induction m using Nat.strongRecOn with
    | _ m ih =>
      intro i a w hmu hi hp hsat
      obtain ⟨e, a₁, w₁, ⟨ex, s1, rfl, hk, hs1⟩, harr⟩ := vC_sound' hm n c b (Inv i) _ hc (round _ i rfl hi hp) fr a w hn hsat bf (.inLoop c :: k) cs
      cases ex with
      | normal =>
        obtain ⟨hlt, hp1, hent⟩ := hk
        obtain ⟨e₂, a₂, w₂, hq₂, harr₂⟩ := ih (N - (i + 1)) (by omega) (i + 1) a₁ w₁ rfl hlt hp1 (hent fr _ _ hn hs1)
        exact ⟨e₂, a₂, w₂, hq₂, .of_steps (Steps.trans harr (.one step_inLoop)) harr₂⟩
      | exit id => exact ⟨_, a₁, w₁, ⟨.exit id, s1, rfl, hk, hs1⟩, .pass (x := .inLoop c) rfl (fun _ _ => .inl (by simp [Ex.toExit])) harr⟩
      | goto l => exact ⟨_, a₁, w₁, ⟨.goto l, s1, rfl, hk, hs1⟩, .pass (x := .inLoop c) rfl (fun _ _ => .inl (by simp [Ex.toExit])) harr⟩
      | ret => exact ⟨_, a₁, w₁, ⟨.ret, s1, rfl, hk, hs1⟩, .pass (x := .inLoop c) rfl (fun _ _ => .inl (by simp [Ex.toExit])) harr⟩
  obtain ⟨e, a', w', hq, harr⟩ := key _ 0 a w rfl (Nat.zero_le _) p0 (h0 fr a w hn hs)
  exact ⟨e, a', w', hq, .of_steps (.one step_loop) harr⟩

end Go.V
