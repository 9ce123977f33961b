/-
  The search tells the order that is there.
-/
import Derived.Test.YtophlodlencgiaaOrdF
namespace Go.Proofs.Ytophlodlencgiaa
open Go.V

theorem ord_len {n : Nat} {GS : Nat → Nat → DV} (S : Ents n GS) {k : Nat} {GT : Nat → Nat → DV} (T : Ents k GT) (room : Int) : ∀ (f i j : Nat) (l : List Nat), ordF S T room f i j = some l → l.length ≤ f
  | 0, _, _, l, h => by simp only [ordF, Option.some.injEq] at h; subst h; exact Nat.le_refl 0
  | f + 1, i, j, l, h => by
    simp only [ordF] at h
    split at h
    · cases h; exact Nat.zero_le _
    · split at h
      · rename_i l' h'
        cases h
        split at h'
        · obtain ⟨l2, h2, rfl⟩ := Option.map_eq_some_iff.1 h'
          have := ord_len S T room f _ _ l2 h2
          simp; omega
        · cases h'
      · split at h
        · obtain ⟨l2, h2, rfl⟩ := Option.map_eq_some_iff.1 h
          have := ord_len S T room f _ _ l2 h2
          simp; omega
        · cases h

theorem Tried.mono {has : List Int → Bool} {p q : Nat → Nat → Prop} (h : Tried has p) (hpq : ∀ a b, p a b → q a b) : Tried has q := ⟨fun a b hab => hpq a b (h.h a b hab)⟩

theorem ok_from {n : Nat} {GS : Nat → Nat → DV} (S : Ents n GS) {k : Nat} {GT : Nat → Nat → DV} (T : Ents k GT) (room : Int) (hS : ∀ i, i < n → S.kd i = 1) (hT : ∀ j, j < k → T.kd j = 2 ∨ T.kd j = 3) (hN : n + k < 1000) :
    ∀ (f i j : Nat), (n - i) + (k - j) = f → i ≤ n → j ≤ k → Cnt S T i j → ∀ (has : List Int → Bool), Tried has (fun a b => i ≤ a → j ≤ b → ord S T room a b = none) → ∀ (zi zj pu go ba : Int), zi = i → zj = j → pu = (S.eff i).length → go = T.got j → ba = T.back j →
    CallOK PR n_order_search_from [.ptr 0 0, .agg [.dv (.int .i64 zi), .dv (.int .i64 zj)], .agg [.dv (.int .i64 pu), .dv (.int .i64 go), .dv (.int .i64 ba)]]
      (smem n GS k GT room has (S.eff n).length fun x => .seq (S.m (S.msg x)) 1 (S.g (S.msg x)))
      (fromQ n GS k GT room (S.eff n).length (fun x => .seq (S.m (S.msg x)) 1 (S.g (S.msg x))) (ord S T room i j) fun has' => Tried has' fun a b => has [(a : Int), (b : Int)] = true ∨ (i ≤ a ∧ j ≤ b ∧ ord S T room a b = none)) := by
  intro f
  induction f using Nat.strongRecOn with
  | _ f ih =>
    intro i j hf hi hj hcnt has htr zi zj pu go ba hzi hzj hpu hgo hba
    have hp := S.eff_len n
    have hpn := S.eff_mono hi
    have hmsg : ∀ x, x < (S.eff n).length → ∀ y, y < S.m (S.msg x) → S.g (S.msg x) y 0 = .int .i64 (S.x (S.msg x) y) := fun x hx y hy => S.hx _ (S.msg_lt hx) y hy
    have hadd := htr.add i j zi zj hzi hzj
    have hadd0 : Tried (std.addk has [zi, zj]) fun a b => has [(a : Int), (b : Int)] = true ∨ (a = i ∧ b = j) := (⟨fun _ _ h => h⟩ : Tried has fun a b => has [(a : Int), (b : Int)] = true).add i j zi zj hzi hzj
    refine ok_from_walk S T room has (S.eff n).length (fun x => .seq (S.m (S.msg x)) 1 (S.g (S.msg x))) i j hi hj hN zi zj pu go ba hzi hzj (ord S T room i j) _
      (fun has1 => ¬ (S.done i ∧ T.done j) ∧ (goS S T room i j = true → ord S T room (i + 1) j = none) ∧ Tried has1 fun a b => (has [(a : Int), (b : Int)] = true ∨ (a = i ∧ b = j)) ∨ (i + 1 ≤ a ∧ j ≤ b ∧ ord S T room a b = none))
      (fun has2 => ¬ (S.done i ∧ T.done j) ∧ (goS S T room i j = true → ord S T room (i + 1) j = none) ∧ (goT S T room i j = true → ord S T room i (j + 1) = none) ∧ Tried has2 fun a b => (has [(a : Int), (b : Int)] = true ∨ (a = i ∧ b = j)) ∨ (i ≤ a ∧ j ≤ b ∧ ord S T room a b = none))
      (fun h => ord_done S T room h) (fun h hd => ?_) ?_ ?_ ?_ ?_ ?_
    · exact ⟨htr.h i j (by rw [← hzi, ← hzj]; exact h) (Nat.le_refl _) (Nat.le_refl _), ⟨fun a b h => .inl h⟩⟩
    · intro hnd hlt hf1 hf2 z hz
      have hgs : goS S T room i j = (stS S T room i j).2 := by rw [goS, decide_eq_true ⟨hlt, hf1, hf2⟩, Bool.true_and]
      have hv : ((((S.eff (i + 1)).length : Int), ((T.got j : Nat) : Int), ((T.back j : Nat) : Int)), (stS S T room i j).2) = doesI room pu go ba (S.kd i) (S.en i) (S.er i) (sameW (S.m (S.msg go.toNat)) (S.x (S.msg go.toNat)) (S.m i) (S.x i)) := by
        rw [← stS_cnt S T room (hS i hlt)]
        subst hpu hgo hba
        simp [stS]
      refine CallOK.ent (ok_go1 n GS k GT room (std.addk has [zi, zj]) (S.eff n).length (fun x => S.m (S.msg x)) (fun x => S.g (S.msg x)) (fun x => S.x (S.msg x)) hmsg (by unfold maxN; omega) pu go ba (by omega) (by omega) (by have := hcnt.1; omega) (by have := hcnt.2; omega)
        (S.co i) (S.pe i) (S.kd i) (S.be i) (S.en i) (S.er i) (S.m i) (S.g i) (S.x i) (S.hx i hlt) (S.ha i) z zj zi i hzi _ _ _ _ hv (ord S T room (i + 1) j) _ (fun l hl => by have := ord_len S T room _ _ _ l hl; omega)
        (fun hv1 => ih _ (by omega) (i + 1) j rfl hlt hj hcnt.stepS _ (hadd.mono fun a b h h1 h2 => ?_) z zj _ _ _ (by omega) hzj rfl rfl rfl)) ?_
      · rcases h with h | ⟨rfl, _⟩
        · exact h (by omega) h2
        · omega
      · rintro r m (⟨l, has', hv1, ho, rfl, rfl⟩ | ⟨has', rfl, rfl, hc⟩)
        · refine ⟨_, _, Ent.refl _ _, .inl ⟨i :: l, has', ?_, rfl, rfl⟩⟩
          rw [ord_step S T room hi hj hnd, hgs, hv1, ho]; rfl
        · refine ⟨_, _, Ent.refl _ _, .inr ⟨has', rfl, rfl, hnd, ?_, ?_⟩⟩
          · intro h
            rw [hgs] at h
            rcases hc with ⟨hc, _⟩ | ⟨_, hc, _⟩
            · rw [h] at hc; cases hc
            · exact hc
          · rcases hc with ⟨_, rfl⟩ | ⟨_, _, hc⟩
            · exact hadd0.mono fun a b h => .inl h
            · exact hc.mono fun a b h => h.imp (fun h => hadd0.h a b h) id
    · intro hnd hc
      refine ⟨hnd, fun h => ?_, hadd0.mono fun a b h => .inl h⟩
      rw [goS, decide_eq_false hc] at h
      cases h
    · rintro has' ⟨hnd, hq1, hq2⟩ hlt hf1 hf2 z hz nn hnn
      have hgs : goT S T room i j = (stT S T room i j).2 := by rw [goT, decide_eq_true ⟨hlt, hf1, hf2⟩, Bool.true_and]
      have hv : ((((S.eff i).length : Int), ((T.got (j + 1) : Nat) : Int), ((T.back (j + 1) : Nat) : Int)), (stT S T room i j).2) = doesI room pu go ba (T.kd j) (T.en j) (T.er j) (sameW (S.m (S.msg go.toNat)) (S.x (S.msg go.toNat)) (T.m j) (T.x j)) := by
        rw [← stT_cnt S T room (hT j hlt)]
        subst hpu hgo hba
        simp [stT]
      refine CallOK.ent (ok_go1 n GS k GT room has' (S.eff n).length (fun x => S.m (S.msg x)) (fun x => S.g (S.msg x)) (fun x => S.x (S.msg x)) hmsg (by unfold maxN; omega) pu go ba (by omega) (by omega) (by have := hcnt.1; omega) (by have := hcnt.2; omega)
        (T.co j) (T.pe j) (T.kd j) (T.be j) (T.en j) (T.er j) (T.m j) (T.g j) (T.x j) (T.hx j hlt) (T.ha j) zi z nn (n + j) hnn _ _ _ _ hv (ord S T room i (j + 1)) _ (fun l hl => by have := ord_len S T room _ _ _ l hl; omega)
        (fun hv1 => ih _ (by omega) i (j + 1) rfl hi hlt (hcnt.stepT S T room (hT j hlt) hv1) _ (hq2.mono fun a b h h1 h2 => ?_) zi z _ _ _ hzi (by omega) rfl rfl rfl)) ?_
      · rcases h with (h | ⟨_, rfl⟩) | ⟨_, _, h⟩
        · exact htr.h a b h h1 (by omega)
        · omega
        · exact h
      · rintro r m (⟨l, has2, hv1, ho, rfl, rfl⟩ | ⟨has2, rfl, rfl, hc⟩)
        · refine ⟨_, _, Ent.refl _ _, .inl ⟨(n + j) :: l, has2, ?_, rfl, rfl⟩⟩
          rw [ord_step S T room hi hj hnd, hgs, hv1, ho]
          cases hg : goS S T room i j
          · rfl
          · rw [hq1 hg]; rfl
        · refine ⟨_, _, Ent.refl _ _, .inr ⟨has2, rfl, rfl, hnd, hq1, ?_, ?_⟩⟩
          · intro h
            rw [hgs] at h
            rcases hc with ⟨hc, _⟩ | ⟨_, hc, _⟩
            · rw [h] at hc; cases hc
            · exact hc
          · have hq3 : Tried has' fun a b => (has [(a : Int), (b : Int)] = true ∨ (a = i ∧ b = j)) ∨ (i ≤ a ∧ j ≤ b ∧ ord S T room a b = none) := hq2.mono fun a b h => h.imp id fun ⟨h1, h2, h3⟩ => ⟨by omega, h2, h3⟩
            rcases hc with ⟨_, rfl⟩ | ⟨_, _, hc⟩
            · exact hq3
            · refine hc.mono fun a b h => ?_
              rcases h with h | ⟨h1, h2, h3⟩
              · exact hq3.h a b h
              · exact .inr ⟨h1, by omega, h3⟩
    · rintro has' ⟨hnd, hq1, hq2⟩ hc
      refine ⟨hnd, hq1, fun h => ?_, hq2.mono fun a b h => h.imp id fun ⟨h1, h2, h3⟩ => ⟨by omega, h2, h3⟩⟩
      rw [goT, decide_eq_false hc] at h
      cases h
    · rintro has' ⟨hnd, hq1, hq2, hq3⟩
      have ho : ord S T room i j = none := by
        rw [ord_step S T room hi hj hnd]
        cases hg : goS S T room i j
        · cases hg2 : goT S T room i j
          · rfl
          · rw [hq2 hg2]; rfl
        · rw [hq1 hg]
          cases hg2 : goT S T room i j
          · rfl
          · rw [hq2 hg2]; rfl
      refine ⟨ho, hq3.mono fun a b h => ?_⟩
      rcases h with (h | ⟨rfl, rfl⟩) | h
      · exact .inl h
      · exact .inr ⟨Nat.le_refl _, Nat.le_refl _, ho⟩
      · exact .inr h

end Go.Proofs.Ytophlodlencgiaa
