/-
  Walks: an order is told, or that there is none.
-/
import Derived.Test.YtophlodlencgiaaOrdF
namespace Go.Proofs.Ytophlodlencgiaa
open Go.V

theorem ord_len {n : Nat} {GS : Nat → Nat → DV} (S : Ents n GS) {k : Nat} {GT : Nat → Nat → DV} (T : Ents k GT) (room : Int) : ∀ (f i j : Nat) (l : List Nat), ordF S T room f i j = some l → l.length ≤ f
  | 0, _, _, l, h => by simp only [ordF, Option.some.injEq] at h; subst h; exact Nat.le_refl 0
  | f + 1, i, j, l, h => by
    simp only [ordF] at h
    split at h
    · cases h; exact Nat.zero_le _
    · split at h
      · rename_i l' h'
        cases h
        split at h'
        · obtain ⟨l2, h2, rfl⟩ := Option.map_eq_some_iff.1 h'
          have := ord_len S T room f _ _ l2 h2
          simp; omega
        · cases h'
      · split at h
        · obtain ⟨l2, h2, rfl⟩ := Option.map_eq_some_iff.1 h
          have := ord_len S T room f _ _ l2 h2
          simp; omega
        · cases h

theorem Tried.mono {has : List Int → Bool} {p q : Nat → Nat → Prop} (h : Tried has p) (hpq : ∀ a b, p a b → q a b) : Tried has q := ⟨fun a b hab => hpq a b (h.h a b hab)⟩

theorem ok_from {n : Nat} {GS : Nat → Nat → DV} (S : Ents n GS) {k : Nat} {GT : Nat → Nat → DV} (T : Ents k GT) (room : Int) (hS : ∀ i, i < n → S.kd i = 1) (hT : ∀ j, j < k → T.kd j = 2 ∨ T.kd j = 3) (hN : n + k < 1000) :
    ∀ (f i j : Nat), (n - i) + (k - j) = f → i ≤ n → j ≤ k → Cnt S T i j → ∀ (has : List Int → Bool), Tried has (fun a b => i ≤ a → j ≤ b → ord S T room a b = none) → ∀ (zi zj pu go ba : Int), zi = i → zj = j → pu = (S.eff i).length → go = T.got j → ba = T.back j →
    CallOK PR n_order_search_from [.ptr 0 0, .agg [.dv (.int .i64 zi), .dv (.int .i64 zj)], .agg [.dv (.int .i64 pu), .dv (.int .i64 go), .dv (.int .i64 ba)]]
      (smem n GS k GT room has (S.eff n).length fun x => .seq (S.m (S.msg x)) 1 (S.g (S.msg x)))
      (fromQ n GS k GT room (S.eff n).length (fun x => .seq (S.m (S.msg x)) 1 (S.g (S.msg x))) (ord S T room i j) fun has' => Tried has' fun a b => has [(a : Int), (b : Int)] = true ∨ (i ≤ a ∧ j ≤ b ∧ ord S T room a b = none)) := by
  intro f
  induction f using Nat.strongRecOn with
  | _ f ih =>
    intro i j hf hi hj hcnt has htr zi zj pu go ba hzi hzj hpu hgo hba
    have hp := S.eff_len n
    have hpn := S.eff_mono hi
    have hmsg : ∀ x, x < (S.eff n).length → ∀ y, y < S.m (S.msg x) → S.g (S.msg x) y 0 = .int .i64 (S.x (S.msg x) y) := fun x hx y hy => S.hx _ (S.msg_lt hx) y hy
    have hadd := htr.add i j zi zj hzi hzj
    have hadd0 : Tried (std.addk has [zi, zj]) fun a b => has [(a : Int), (b : Int)] = true ∨ (a = i ∧ b = j) := (⟨fun _ _ h => h⟩ : Tried has fun a b => has [(a : Int), (b : Int)] = true).add i j zi zj hzi hzj
    refine ok_from_walk S T room has (S.eff n).length (fun x => .seq (S.m (S.msg x)) 1 (S.g (S.msg x))) i j hi hj hN zi zj pu go ba hzi hzj (ord S T room i j) _
      (fun has1 => ¬ (S.done i ∧ T.done j) ∧ (goS S T room i j = true → ord S T room (i + 1) j = none) ∧ Tried has1 fun a b => (has [(a : Int), (b : Int)] = true ∨ (a = i ∧ b = j)) ∨ (i + 1 ≤ a ∧ j ≤ b ∧ ord S T room a b = none))
      (fun has2 => ¬ (S.done i ∧ T.done j) ∧ (goS S T room i j = true → ord S T room (i + 1) j = none) ∧ (goT S T room i j = true → ord S T room i (j + 1) = none) ∧ Tried has2 fun a b => (has [(a : Int), (b : Int)] = true ∨ (a = i ∧ b = j)) ∨ (i ≤ a ∧ j ≤ b ∧ ord S T room a b = none))
      (fun h => ord_done S T room h) (fun h hd => ?_) ?_ ?_ ?_ ?_ ?_
    · exact ⟨htr.h i j (by rw [← hzi, ← hzj]; exact h) (Nat.le_refl _) (Nat.le_refl _), ⟨fun a b h => .inl h⟩⟩
    · intro hnd hlt hf1 hf2 z hz
      have hgs : goS S T room i j = (stS S T room i j).2 := by rw [goS, decide_eq_true ⟨hlt, hf1, hf2⟩, Bool.true_and]
      have hv : ((((S.eff (i + 1)).length : Int), ((T.got j : Nat) : Int), ((T.back j : Nat) : Int)), (stS S T room i j).2) = doesI room pu go ba (S.kd i) (S.en i) (S.er i) (sameW (S.m (S.msg go.toNat)) (S.x (S.msg go.toNat)) (S.m i) (S.x i)) := by
        rw [← stS_cnt S T room (hS i hlt)]
        subst hpu hgo hba
        simp [stS]
      refine CallOK.ent (ok_go1 n GS k GT room (std.addk has [zi, zj]) (S.eff n).length (fun x => S.m (S.msg x)) (fun x => S.g (S.msg x)) (fun x => S.x (S.msg x)) hmsg (by unfold maxN; omega) pu go ba (by omega) (by omega) (by have := hcnt.1; omega) (by have := hcnt.2; omega)
        (S.co i) (S.pe i) (S.kd i) (S.be i) (S.en i) (S.er i) (S.m i) (S.g i) (S.x i) (S.hx i hlt) (S.ha i) z zj zi i hzi _ _ _ _ hv (ord S T room (i + 1) j) _ (fun l hl => by have := ord_len S T room _ _ _ l hl; omega)
        (fun hv1 => ih _ (by omega) (i + 1) j rfl hlt hj hcnt.stepS _ (hadd.mono fun a b h h1 h2 => ?_) z zj _ _ _ (by omega) hzj rfl rfl rfl)) ?_
      · rcases h with h | ⟨rfl, _⟩
        · exact h (by omega) h2
        · omega
      · rintro r m (⟨l, has', hv1, ho, rfl, rfl⟩ | ⟨has', rfl, rfl, hc⟩)
        · refine ⟨_, _, Ent.refl _ _, .inl ⟨i :: l, has', ?_, rfl, rfl⟩⟩
          rw [ord_step S T room hi hj hnd, hgs, hv1, ho]; rfl
        · refine ⟨_, _, Ent.refl _ _, .inr ⟨has', rfl, rfl, hnd, ?_, ?_⟩⟩
          · intro h
            rw [hgs] at h
            rcases hc with ⟨hc, _⟩ | ⟨_, hc, _⟩
            · rw [h] at hc; cases hc
            · exact hc
          · rcases hc with ⟨_, rfl⟩ | ⟨_, _, hc⟩
            · exact hadd0.mono fun a b h => .inl h
            · exact hc.mono fun a b h => h.imp (fun h => hadd0.h a b h) id
    · intro hnd hc
      refine ⟨hnd, fun h => ?_, hadd0.mono fun a b h => .inl h⟩
      rw [goS, decide_eq_false hc] at h
      cases h
    · rintro has' ⟨hnd, hq1, hq2⟩ hlt hf1 hf2 z hz nn hnn
      have hgs : goT S T room i j = (stT S T room i j).2 := by rw [goT, decide_eq_true ⟨hlt, hf1, hf2⟩, Bool.true_and]
      have hv : ((((S.eff i).length : Int), ((T.got (j + 1) : Nat) : Int), ((T.back (j + 1) : Nat) : Int)), (stT S T room i j).2) = doesI room pu go ba (T.kd j) (T.en j) (T.er j) (sameW (S.m (S.msg go.toNat)) (S.x (S.msg go.toNat)) (T.m j) (T.x j)) := by
        rw [← stT_cnt S T room (hT j hlt)]
        subst hpu hgo hba
        simp [stT]
      refine CallOK.ent (ok_go1 n GS k GT room has' (S.eff n).length (fun x => S.m (S.msg x)) (fun x => S.g (S.msg x)) (fun x => S.x (S.msg x)) hmsg (by unfold maxN; omega) pu go ba (by omega) (by omega) (by have := hcnt.1; omega) (by have := hcnt.2; omega)
        (T.co j) (T.pe j) (T.kd j) (T.be j) (T.en j) (T.er j) (T.m j) (T.g j) (T.x j) (T.hx j hlt) (T.ha j) zi z nn (n + j) hnn _ _ _ _ hv (ord S T room i (j + 1)) _ (fun l hl => by have := ord_len S T room _ _ _ l hl; omega)
        (fun hv1 => ih _ (by omega) i (j + 1) rfl hi hlt (hcnt.stepT S T room (hT j hlt) hv1) _ (hq2.mono fun a b h h1 h2 => ?_) zi z _ _ _ hzi (by omega) rfl rfl rfl)) ?_
      · rcases h with (h | ⟨_, rfl⟩) | ⟨_, _, h⟩
        · exact htr.h a b h h1 (by omega)
        · omega
        · exact h
      · rintro r m (⟨l, has2, hv1, ho, rfl, rfl⟩ | ⟨has2, rfl, rfl, hc⟩)
        · refine ⟨_, _, Ent.refl _ _, .inl ⟨(n + j) :: l, has2, ?_, rfl, rfl⟩⟩
          rw [ord_step S T room hi hj hnd, hgs, hv1, ho]
          cases hg : goS S T room i j
          · rfl
          · rw [hq1 hg]; rfl
        · refine ⟨_, _, Ent.refl _ _, .inr ⟨has2, rfl, rfl, hnd, hq1, ?_, ?_⟩⟩
          · intro h
            rw [hgs] at h
            rcases hc with ⟨hc, _⟩ | ⟨_, hc, _⟩
            · rw [h] at hc; cases hc
            · exact hc
          · have hq3 : Tried has' fun a b => (has [(a : Int), (b : Int)] = true ∨ (a = i ∧ b = j)) ∨ (i ≤ a ∧ j ≤ b ∧ ord S T room a b = none) := hq2.mono fun a b h => h.imp id fun ⟨h1, h2, h3⟩ => ⟨by omega, h2, h3⟩
            rcases hc with ⟨_, rfl⟩ | ⟨_, _, hc⟩
            · exact hq3
            · refine hc.mono fun a b h => ?_
              rcases h with h | ⟨h1, h2, h3⟩
              · exact hq3.h a b h
              · exact .inr ⟨h1, by omega, h3⟩
    · rintro has' ⟨hnd, hq1, hq2⟩ hc
      refine ⟨hnd, hq1, fun h => ?_, hq2.mono fun a b h => h.imp id fun ⟨h1, h2, h3⟩ => ⟨by omega, h2, h3⟩⟩
      rw [goT, decide_eq_false hc] at h
      cases h
    · rintro has' ⟨hnd, hq1, hq2, hq3⟩
      have ho : ord S T room i j = none := by
        rw [ord_step S T room hi hj hnd]
        cases hg : goS S T room i j
        · cases hg2 : goT S T room i j
          · rfl
          · rw [hq2 hg2]; rfl
        · rw [hq1 hg]
          cases hg2 : goT S T room i j
          · rfl
          · rw [hq2 hg2]; rfl
      refine ⟨ho, hq3.mono fun a b h => ?_⟩
      rcases h with (h | ⟨rfl, rfl⟩) | h
      · exact .inl h
      · exact .inr ⟨Nat.le_refl _, Nat.le_refl _, ho⟩
      · exact .inr h

end Go.Proofs.Ytophlodlencgiaa

namespace Go.Proofs.Ytophlodlencgiaa
open Go.V

set_option maxHeartbeats 4000000 in
theorem ok_shaped {n : Nat} {G : Nat → Nat → DV} (S : Ents n G) (q : Nat) (gk : Nat → Nat → DV) (x : Nat → Int) (hx : ∀ i, i < q → gk i 0 = .int .i64 (x i)) :
    CallOK (O := Ob) PR n_order_shaped [.dv (.seq n 8 G), .dv (.seq q 1 gk)] [] fun r m => (∃ v, (v = true ↔ S.shaped fun z => ∃ i, i < q ∧ x i = z) ∧ r = .dv (.bool v)) ∧ m = [] := by
  refine CallOK.drop (fn_walk mixed fn_order_shaped fun A P hA hP Q hQ => ?_)
  have eQ : ∀ (v : Bool) m, (v = true ↔ S.shaped fun z => ∃ i, i < q ∧ x i = z) → Q (.dv (.bool v)) m := fun v m hv => by
    subst hQ; exact ⟨.dv (.bool v), rfl, v, hv, rfl⟩
  clear hQ
  cbv
  intro hn
  have hn' : n ≤ 17592186044416 := hn
  cbv
  refine loop_nat mixed hP hA n (fun i => ∀ j, j < i → (∃ l, l < q ∧ x l = S.kd j) ∧ (S.en j = 0 → j + 1 = n)) (fun i => ⟨envOf 32 [(0, .dv (.seq n 8 G)), (1, .dv (.seq q 1 gk)), (7, .dv (.seq n 8 G)), (8, .dv (.int .i64 (A.ofN n))), (9, .dv (.int .i64 (A.ofN i)))], []⟩)
    (fun j hj => absurd hj (Nat.not_lt_zero j)) (Ent.env (by cbv; subst hA; simp)) fun J i hJ hi he => ?_
  have bad : ∀ m, i < n → ¬ ((∃ l, l < q ∧ x l = S.kd i) ∧ (S.en i = 0 → i + 1 = n)) → Q (.dv (.bool false)) m := fun m h1 h2 => eQ false m ⟨fun h => Bool.noConfusion h, fun h => (h2 (h i h1)).elim⟩
  have good : i = n → ∀ m, Q (.dv (.bool true)) m := fun h m => eQ true m ⟨fun _ j hj => he j (by omega), fun _ => rfl⟩
  have next : i < n → (∃ l, l < q ∧ x l = S.kd i) ∧ (S.en i = 0 → i + 1 = n) → ∀ j, j < i + 1 → (∃ l, l < q ∧ x l = S.kd j) ∧ (S.en j = 0 → j + 1 = n) := fun _ h => below_succ he h
  have hstep : i < n → ∀ e c, LLe [] e (envOf 32 [(0, .dv (.seq n 8 G)), (1, .dv (.seq q 1 gk)), (7, .dv (.seq n 8 G)), (8, .dv (.int .i64 (A.ofN n))), (9, .dv (.int .i64 (A.bin .add .i64 (A.ofN i) 1)))]) → Ent 0 (⟨e, [c]⟩ : St Ob) J := by
    intro h e c hl
    subst hJ
    have q7 : A.bin .add .i64 (A.ofN i) 1 = A.ofN (i + 1) := by subst hA; simp; rw [w64_in (by omega)]
    rw [← q7]
    exact Ent.ren [] rfl rfl trivial hl
  clear eQ he hJ
  have l1 : A.cmp .lss (A.ofN i) (A.ofN n) = true → i < n := by subst hA; simp
  have l2 : A.cmp .lss (A.ofN i) (A.ofN n) = false → i = n := by subst hA; simp; omega
  have l3 : i < n → (A.cmp .lss (A.ofN i) (A.bin .sub .i64 (A.ofN n) 1) = true ↔ i + 1 < n) := by intro h; subst hA; simp; rw [w64_in (by omega)]; omega
  have hin : i < n → A.inb (A.ofN i) n := by subst hA; simp
  have hto : i = A.toN (A.ofN i) := by subst hA; simp
  cbv
  refine bc_split (fun h1 => ?_) (fun h1 => ?_)
  · have f1 := l1 h1
    cbv
    refine ⟨hin f1, fun k hk hk2 => ?_⟩
    obtain rfl : i = k := hto.trans hk.symm
    clear hk
    cbv
    rw [S.h0 i f1, S.h1 i f1, S.h2 i f1, S.h3 i f1, S.h4 i f1, S.h5 i f1, S.h6 i f1, S.h7 i f1]
    cbv
    refine call_pure hP code_slices_Contains_Sint_int (ok_Contains q gk x hx (S.kd i)) (by cbv; all_goals simp) ?_
    rintro _ ⟨z, hz, rfl⟩
    cbv
    refine bc_split (fun h2 => ?_) (fun h2 => ?_)
    · have f2 : ¬ z = true := by subst hA; simpa [std] using h2
      cbv
      exact bad _ f1 fun h => f2 (hz.2 h.1)
    have f2 : z = true := by subst hA; simpa [std] using h2
    have f3 := hz.1 f2
    cbv
    refine bc_split (fun h3 => ?_) (fun h3 => ?_)
    · have f4 : S.en i = 0 := by subst hA; simpa using h3
      cbv
      intro _
      cbv
      refine bc_split (fun h4 => ?_) (fun h4 => ?_)
      · have f5 := (l3 f1).1 h4
        cbv
        exact bad _ f1 fun h => by have := h.2 f4; omega
      · have f5 : ¬ i + 1 < n := fun h => Bool.noConfusion (h4.symm.trans ((l3 f1).2 h))
        have f6 := next f1 ⟨f3, fun _ => by omega⟩
        cbv
        exact ⟨f1, f6, hstep f1 _ _ (by cbv; all_goals trivial)⟩
    · have f4 : ¬ S.en i = 0 := by subst hA; simpa using h3
      have f6 := next f1 ⟨f3, fun h => (f4 h).elim⟩
      cbv
      exact ⟨f1, f6, hstep f1 _ _ (by cbv; all_goals trivial)⟩
  · cbv
    exact good (l2 h1) _

/-- A row that is turned round from its ends on. -/
def rvF (N i : Nat) (z : Nat → Int) (j : Nat) : Int := if j < i ∨ N - i ≤ j then z (N - 1 - j) else z j

set_option maxHeartbeats 4000000 in
theorem ok_Reverse (N : Nat) (z : Nat → Int) (hN : N < 1000) : CallOK (O := Ob) PR n_slices_Reverse_Sint_int [.vec 0] [.vec N 1 (fun j _ => .dv (.int .i64 (z j)))] fun _ m => m = [.vec N 1 (fun j _ => .dv (.int .i64 (z (N - 1 - j))))] := by
  refine fn_walk2 mixed fn_slices_Reverse_Sint_int (Ent.refl _ _) fun A P hA hP Q hQ => ?_
  have eQ : ∀ (v : SV) (y : Nat → Nat → SV), (∀ j f, j < N → f < 1 → y j f = .dv (.int .i64 (z (N - 1 - j)))) → Q v [.vec N 1 y] := by
    intro v y hy
    subst hQ
    refine ⟨.junk, _, Ent.ren (s' := ⟨[.junk], [.vec N 1 (fun j _ => .dv (.int .i64 (z (N - 1 - j))))]⟩) [0] rfl rfl ⟨⟨rfl, rfl, fun j f hj hf => ?_⟩, trivial⟩ ⟨trivial, trivial⟩, rfl⟩
    rw [hy j f hj hf]; rfl
  clear hQ
  obtain ⟨zj, hzj⟩ : ∃ zj : Nat → Int, ∀ i : Nat, zj i = (N : Int) - 1 - i := ⟨_, fun _ => rfl⟩
  have q0 : A.bin .sub .i64 (A.ofN N) 1 = zj 0 := by rw [hzj]; subst hA; simp; rw [w64_in (by omega)]
  have q7 : ∀ i, 2 * i + 1 < N → A.bin .add .i64 (A.ofN i) 1 = A.ofN (i + 1) := by intro i h; subst hA; simp; rw [w64_in (by omega)]
  have q8 : ∀ i, 2 * i + 1 < N → A.bin .sub .i64 (zj i) 1 = zj (i + 1) := by intro i h; rw [hzj, hzj]; subst hA; simp; rw [w64_in (by omega)]; omega
  have l1 : ∀ i, A.cmp .lss (A.ofN i) (zj i) = true → 2 * i + 1 < N := by intro i; rw [hzj]; subst hA; simp; omega
  have l2 : ∀ i, A.cmp .lss (A.ofN i) (zj i) = false → N ≤ 2 * i + 1 := by intro i; rw [hzj]; subst hA; simp; omega
  have hin : ∀ i, 2 * i + 1 < N → A.inb (A.ofN i) N ∧ i = A.toN (A.ofN i) := by intro i h; subst hA; simp; omega
  have hin2 : ∀ i, 2 * i + 1 < N → A.inb (zj i) N ∧ N - 1 - i = A.toN (zj i) := by intro i; rw [hzj]; intro h; subst hA; simp; omega
  clear hzj
  cbv
  intro hn
  cbv
  refine loop_nat mixed hP hA N (fun _ => True) (fun i => ⟨envOf 28 [(0, .vec 0), (2, .dv (.int .i64 (A.ofN i))), (3, .dv (.int .i64 (zj i)))], [.vec N 1 (fun j _ => .dv (.int .i64 (rvF N i z j)))]⟩)
    trivial ?_ fun J i hJ hi _ => ?_
  · show Ent _ _ (⟨envOf 28 [(0, .vec 0), (2, .dv (.int .i64 (A.ofN 0))), (3, .dv (.int .i64 (zj 0)))], [.vec N 1 (fun j _ => .dv (.int .i64 (rvF N 0 z j)))]⟩ : St Ob)
    rw [← q0]
    refine Ent.ren [0] rfl rfl ⟨⟨rfl, rfl, fun j f hj hf => ?_⟩, trivial⟩ (by cbv; subst hA; simp)
    show SV.dv (.int .i64 (z j)) = renV [0] (.dv (.int .i64 (rvF N 0 z j)))
    rw [rvF, if_neg (by omega)]; rfl
  have hstep : 2 * i + 1 < N → ∀ e (y : Nat → Nat → SV), (∀ j f, j < N → f < 1 → y j f = .dv (.int .i64 (rvF N (i + 1) z j))) → LLe [0] e (envOf 28 [(0, .vec 0), (2, .dv (.int .i64 (A.bin .add .i64 (A.ofN i) 1))), (3, .dv (.int .i64 (A.bin .sub .i64 (zj i) 1)))]) → Ent 1 (⟨e, [.vec N 1 y]⟩ : St Ob) J := by
    intro h e y hy hl
    subst hJ
    rw [q7 i h, q8 i h] at hl
    refine Ent.ren [0] rfl rfl ⟨⟨rfl, rfl, fun j f hj hf => ?_⟩, trivial⟩ hl
    rw [hy j f hj hf]; rfl
  replace l1 := l1 i
  replace l2 := l2 i
  replace hin := hin i
  replace hin2 := hin2 i
  have hv1 : 2 * i + 1 < N → rvF N i z (N - 1 - i) = z (N - 1 - i) := fun h => by rw [rvF, if_neg (by omega)]
  have hv2 : 2 * i + 1 < N → rvF N i z i = z i := fun h => by rw [rvF, if_neg (by omega)]
  have hupd : 2 * i + 1 < N → ∀ j f, j < N → f < 1 → updRow (updRow (fun j _ => .dv (.int .i64 (rvF N i z j))) i 0 [.dv (.int .i64 (rvF N i z (N - 1 - i)))]) (N - 1 - i) 0 [.dv (.int .i64 (rvF N i z i))] j f = .dv (.int .i64 (rvF N (i + 1) z j)) := by
    intro h j f hj hf
    obtain rfl : f = 0 := by omega
    rw [hv1 h, hv2 h]
    simp only [updRow, Nat.lt_irrefl, if_false, Nat.sub_self, lget]
    by_cases e1 : j = N - 1 - i
    · subst e1
      rw [if_pos rfl, rvF, if_pos (by omega)]
      congr 3; omega
    · rw [if_neg e1]
      by_cases e2 : j = i
      · subst e2
        rw [if_pos rfl, rvF, if_pos (by omega)]
      · rw [if_neg e2, rvF, rvF]
        by_cases e3 : j < i ∨ N - i ≤ j
        · rw [if_pos e3, if_pos (by omega)]
        · rw [if_neg e3, if_neg (by omega)]
  have hend : N ≤ 2 * i + 1 → ∀ j f, j < N → f < 1 → (SV.dv (.int .i64 (rvF N i z j))) = .dv (.int .i64 (z (N - 1 - j))) := by
    intro h j f hj _
    rw [rvF]
    split
    · rfl
    · congr 3; omega
  clear hJ q0 q7 q8 hv1 hv2
  generalize rvF N i z = y at *
  generalize N - 1 - i = r at *
  cbv
  refine bc_split (fun h1 => ?_) (fun h1 => ?_)
  · have f1 := l1 h1
    have f2 : i < N := by omega
    cbv
    refine ⟨(hin2 f1).1, fun k hk hk2 => ?_⟩
    obtain rfl : r = k := (hin2 f1).2.trans hk.symm
    clear hk
    cbv
    refine ⟨(hin f1).1, fun k hk hk2 => ?_⟩
    obtain rfl : i = k := (hin f1).2.trans hk.symm
    clear hk
    cbv
    refine ⟨(hin f1).1, fun k hk hk2 => ?_⟩
    obtain rfl : i = k := (hin f1).2.trans hk.symm
    clear hk
    cbv
    refine ⟨(hin2 f1).1, fun k hk hk2 => ?_⟩
    obtain rfl : r = k := (hin2 f1).2.trans hk.symm
    clear hk
    cbv
    exact ⟨f2, hstep f1 _ _ (hupd f1) (by cbv; all_goals trivial)⟩
  · cbv
    exact eQ _ _ (hend (l2 h1))

end Go.Proofs.Ytophlodlencgiaa

namespace Go.Proofs.Ytophlodlencgiaa
open Go.V

instance {n : Nat} {G : Nat → Nat → DV} (S : Ents n G) (p : Int → Prop) [DecidablePred p] : Decidable (S.shaped p) := by unfold Ents.shaped; infer_instance

/-- May there be an order, as far as the lists are told? -/
def May {n : Nat} {GS : Nat → Nat → DV} (S : Ents n GS) {k : Nat} {GT : Nat → Nat → DV} (T : Ents k GT) (room : Int) : Prop := 0 ≤ room ∧ (S.shaped fun z => z = 1) ∧ T.shaped fun z => z = 2 ∨ z = 3

instance {n : Nat} {GS : Nat → Nat → DV} (S : Ents n GS) {k : Nat} {GT : Nat → Nat → DV} (T : Ents k GT) (room : Int) : Decidable (May S T room) := by unfold May; infer_instance

/-- The order of the calls, where there is one. -/
def witO {n : Nat} {GS : Nat → Nat → DV} (S : Ents n GS) {k : Nat} {GT : Nat → Nat → DV} (T : Ents k GT) (room : Int) : Option (List Nat) := if May S T room then ord S T room 0 0 else none

/-- What is told of an order. -/
def witR (o : Option (List Nat)) (r : SV) : Prop := ∃ (l : List Nat) (b : Bool), ((b = true ∧ o = some l) ∨ (b = false ∧ o = none ∧ l = [])) ∧ r = .tup [.dv (.seq l.length 1 fun j _ => .int .i64 ((l.getD j 0 : Nat) : Int)), .dv (.bool b)]

theorem ok_Reverse_nil : CallOK (O := Ob) PR n_slices_Reverse_Sint_int [.dv .nils] [] fun _ m => True ∧ m = [] := by
  refine CallOK.drop (fn_walk mixed fn_slices_Reverse_Sint_int fun A P hA hP Q hQ => ?_)
  have q0 : A.bin .sub .i64 0 1 = -1 := by subst hA; simp; rw [w64_in (by omega)]
  have l1 : A.cmp .lss 0 (-1) = false := by subst hA; decide
  have eQ : ∀ v m, Q v m := fun v m => by subst hQ; exact ⟨.junk, trivial, trivial⟩
  cbv
  refine loop_nat mixed hP hA 0 (fun _ => True) (fun _ => ⟨envOf 28 [(0, .dv .nils), (2, .dv (.int .i64 0)), (3, .dv (.int .i64 (-1)))], []⟩) trivial ?_ fun J i hJ hi _ => ?_
  · rw [← q0]
    exact Ent.env (by cbv; all_goals trivial)
  · cbv
    refine bc_false l1 ?_
    cbv
    exact eQ _ _

/-- The loads of the messages put so far. -/
def ldsAt {n : Nat} {G : Nat → Nat → DV} (S : Ents n G) (i : Nat) : Nat → DV := fun j => .seq (S.m ((S.eff i).getD j 0)) 1 (S.g ((S.eff i).getD j 0))

theorem shaped1 {n : Nat} {G : Nat → Nat → DV} (S : Ents n G) : (S.shaped fun z => ∃ i : Nat, i < 1 ∧ (fun _ => (1 : Int)) i = z) ↔ S.shaped fun z => z = 1 := by
  have e : (fun z : Int => ∃ i : Nat, i < 1 ∧ (1 : Int) = z) = fun z => z = 1 := by
    funext z; apply propext
    exact ⟨fun ⟨_, _, h⟩ => h.symm, fun h => ⟨0, by omega, h.symm⟩⟩
  rw [e]
theorem shaped2 {n : Nat} {G : Nat → Nat → DV} (S : Ents n G) : (S.shaped fun z => ∃ i : Nat, i < 2 ∧ (fun i : Nat => if i = 0 then (2 : Int) else 3) i = z) ↔ S.shaped fun z => z = 2 ∨ z = 3 := by
  have e : (fun z : Int => ∃ i : Nat, i < 2 ∧ (if i = 0 then (2 : Int) else 3) = z) = fun z => z = 2 ∨ z = 3 := by
    funext z; apply propext
    constructor
    · rintro ⟨i, _, h⟩; split at h <;> simp [← h]
    · rintro (rfl | rfl)
      · exact ⟨0, by omega, rfl⟩
      · exact ⟨1, by omega, rfl⟩
  rw [e]

set_option maxRecDepth 100000 in
set_option maxHeartbeats 8000000 in
theorem ok_Witness {n : Nat} {GS : Nat → Nat → DV} (S : Ents n GS) {k : Nat} {GT : Nat → Nat → DV} (T : Ents k GT) (room : Int) (hN : n + k < 1000) :
    CallOK (O := Ob) PR n_order_Witness [.dv (.seq n 8 GS), .dv (.seq k 8 GT), .dv (.int .i64 room)] [] fun r m => witR (witO S T room) r ∧ m = [] := by
  refine fn_walk2 mixed fn_order_Witness (Ent.refl _ _) fun A P hA hP Q hQ => ?_
  have eF : ∀ m, witO S T room = none → Q (.tup [.dv .nils, .dv (.bool false)]) m := by
    intro m h
    subst hQ
    exact ⟨.tup [.dv (.seq 0 1 fun _ _ => .int .i64 0), .dv (.bool false)], [], (Ent.weak1 (.tup (.cons (.dv (.nil 1 _)) (.cons (.same _) .nil)))).trans (Ent.none_ rfl), ⟨[], false, .inr ⟨rfl, h, rfl⟩, rfl⟩, rfl⟩
  have eN : ∀ m, witO S T room = some [] → Q (.tup [.dv .nils, .dv (.bool true)]) m := by
    intro m h
    subst hQ
    exact ⟨.tup [.dv (.seq 0 1 fun _ _ => .int .i64 0), .dv (.bool true)], [], (Ent.weak1 (.tup (.cons (.dv (.nil 1 _)) (.cons (.same _) .nil)))).trans (Ent.none_ rfl), ⟨[], true, .inl ⟨rfl, h⟩, rfl⟩, rfl⟩
  have eT : ∀ (m : List (Chunk Ob)) (h : Nat) (l : List Nat) (at_ : Nat → Nat → SV), witO S T room = some l → lget m h = some (.vec l.length 1 at_) → (∀ i f, i < l.length → f < 1 → at_ i f = .dv (.int .i64 ((l.getD i 0 : Nat) : Int))) → Q (.tup [.vec h, .dv (.bool true)]) m := by
    intro m h l at_ ho hm hat
    subst hQ
    refine ⟨.tup [.dv (.seq l.length 1 fun j _ => .int .i64 ((l.getD j 0 : Nat) : Int)), .dv (.bool true)], [], Ent.trans (Ent.frz h (fun j _ => .int .i64 ((l.getD j 0 : Nat) : Int)) hm hat) ?_, ⟨l, true, .inl ⟨rfl, ho⟩, rfl⟩, rfl⟩
    have e : frzL h (.seq l.length 1 fun j _ => .int .i64 ((l.getD j 0 : Nat) : Int)) [.tup [.vec h, .dv (.bool true)]] = [.tup [.dv (.seq l.length 1 fun j _ => .int .i64 ((l.getD j 0 : Nat) : Int)), .dv (.bool true)]] := by
      have : Nat.beq h h = true := Nat.beq_refl h
      simp only [frzL, frzV, this]
    rw [e]
    exact Ent.none_ rfl
  clear hQ
  have hr : A.cmp .lss room 0 = true → witO S T room = none := by
    intro h; rw [witO, if_neg]; rintro ⟨h0, _⟩; subst hA; simp at h; omega
  have hr' : A.cmp .lss room 0 = false → 0 ≤ room := by subst hA; simp
  have s1 := ok_shaped S 1 (fun _ _ => .int .i64 1) (fun _ => 1) (fun _ _ => rfl)
  simp only [shaped1 S] at s1
  have s2 := ok_shaped T 2 (fun i _ => .int .i64 (if i = 0 then 2 else 3)) (fun i => if i = 0 then 2 else 3) (fun _ _ => rfl)
  simp only [shaped2 T] at s2
  have hne : ¬ (0 ≤ room ∧ (S.shaped fun z => z = 1) ∧ T.shaped fun z => z = 2 ∨ z = 3) → witO S T room = none := fun h => by rw [witO, if_neg (show ¬ May S T room from h)]
  have hlen0 : ∀ l, witO S T room = some l → l.length < 1000 := fun l h => by
    rw [witO] at h
    split at h
    · have := ord_len S T room _ _ _ l h; omega
    · cases h
  have hmain : (0 ≤ room ∧ (S.shaped fun z => z = 1) ∧ T.shaped fun z => z = 2 ∨ z = 3) → witO S T room = ord S T room 0 0 ∧ CallOK PR n_order_search_from [.ptr 0 0, .agg [.dv (.int .i64 0), .dv (.int .i64 0)], .agg [.dv (.int .i64 0), .dv (.int .i64 0), .dv (.int .i64 0)]]
      (smem n GS k GT room (fun _ => false) (S.eff n).length fun x => .seq (S.m (S.msg x)) 1 (S.g (S.msg x))) (fromQ n GS k GT room (S.eff n).length (fun x => .seq (S.m (S.msg x)) 1 (S.g (S.msg x))) (witO S T room) fun _ => True) := fun h => by
    have e : witO S T room = ord S T room 0 0 := by rw [witO, if_pos (show May S T room from h)]
    refine ⟨e, CallOK.ent (ok_from S T room (fun i hi => (h.2.1 i hi).1) (fun j hj => (h.2.2 j hj).1) hN _ 0 0 rfl (Nat.zero_le _) (Nat.zero_le _) (Cnt.zero S T) (fun _ => false) ⟨fun _ _ h => Bool.noConfusion h⟩ 0 0 0 0 0 rfl rfl rfl rfl rfl) fun r m hq => ⟨r, m, Ent.refl _ _, ?_⟩⟩
    rw [e]
    rcases hq with hq | ⟨has, h1, h2, h3, _⟩ | hq
    · exact .inl hq
    · exact .inr (.inl ⟨has, h1, h2, h3, trivial⟩)
    · exact .inr (.inr hq)
  cbv
  refine bc_split (fun d1 => ?_) (fun d1 => ?_)
  · cbv
    exact eF _ (hr d1)
  have f0 := hr' d1
  cbv
  refine call_frz hP 0 (fun _ _ => .int .i64 1) rfl (fun i f hi hf => ?_) [] code_order_shaped s1 rfl trivial ⟨rfl, rfl, trivial⟩ ?_
  · obtain rfl : i = 0 := by omega
    obtain rfl : f = 0 := by omega
    rfl
  rintro _ _ ⟨⟨v1, hv1, rfl⟩, rfl⟩ _
  refine ⟨_, fun _ => Ent.refl _ _, ?_⟩
  cbv
  refine bc_split (fun d2 => ?_) (fun d2 => ?_)
  · have f1 : ¬ v1 = true := by subst hA; simpa [std] using d2
    cbv
    exact eF _ (hne fun h => f1 (hv1.2 h.2.1))
  have f1 := hv1.1 (by subst hA; simpa [std] using d2)
  cbv
  refine call_frz hP 1 (fun i _ => .int .i64 (if i = 0 then 2 else 3)) rfl (fun i f hi hf => ?_) [] code_order_shaped s2 rfl trivial ⟨rfl, rfl, trivial⟩ ?_
  · obtain rfl : f = 0 := by omega
    rcases (by omega : i = 0 ∨ i = 1) with rfl | rfl <;> rfl
  rintro _ _ ⟨⟨v2, hv2, rfl⟩, rfl⟩ _
  refine ⟨_, fun _ => Ent.refl _ _, ?_⟩
  cbv
  refine bc_split (fun d3 => ?_) (fun d3 => ?_)
  · have f2 : ¬ v2 = true := by subst hA; simpa [std] using d3
    cbv
    exact eF _ (hne fun h => f2 (hv2.2 h.2.2))
  have f2 := hv2.1 (by subst hA; simpa [std] using d3)
  obtain ⟨ho, hfrom⟩ := hmain ⟨f0, f1, f2⟩
  clear hmain hne s1 s2 hr hr' d1 d2 d3 hv1 hv2 f0 f1 f2
  cbv
  intro hn
  cbv
  refine loop_nat mixed hP hA n (fun _ => True) (fun i => ⟨envOf 71 [(8, .ptr 0 0), (33, .dv (.seq n 8 GS)), (34, .dv (.int .i64 (A.ofN n))), (35, .dv (.int .i64 (A.ofN i)))], smem n GS k GT room (fun _ => false) (S.eff i).length (ldsAt S i)⟩) trivial ?_ fun J i hJ hi _ => ?_
  · refine Ent.trans (Ent.nilvec 3 3 1 (fun j _ => .dv (ldsAt S 0 j)) rfl rfl rfl) (Ent.ren [3, 2, 4] rfl rfl ⟨⟨rfl, rfl, rfl, rfl, rfl, trivial⟩, rfl, ⟨rfl, rfl, fun _ _ _ _ => rfl⟩, trivial⟩ (by cbv; subst hA; simp))
  have hin : i < n → A.inb (A.ofN i) n ∧ i = A.toN (A.ofN i) := by intro h; subst hA; simp; omega
  have l1 : A.cmp .lss (A.ofN i) (A.ofN n) = true → i < n := by subst hA; simp
  have l2 : A.cmp .lss (A.ofN i) (A.ofN n) = false → i = n := by subst hA; simp; omega
  have hfrom' : i = n → CallOK PR n_order_search_from [.ptr 0 0, .agg [.dv (.int .i64 0), .dv (.int .i64 0)], .agg [.dv (.int .i64 0), .dv (.int .i64 0), .dv (.int .i64 0)]]
      (smem n GS k GT room (fun _ => false) (S.eff i).length (ldsAt S i)) (fromQ n GS k GT room (S.eff i).length (ldsAt S i) (witO S T room) fun _ => True) := fun h => by subst h; exact hfrom
  clear hfrom
  have hroom : A.room (A.add (S.eff i).length 1) 24 := by have := S.eff_len i; subst hA; simp [std, maxN]; omega
  have hno : i < n → ¬ (S.en i = 0 ∨ S.er i = 0) → S.eff (i + 1) = S.eff i := fun h h2 => by
    rw [Ents.eff, if_neg]; rwa [okE_iff]
  have hyes : i < n → (S.en i = 0 ∨ S.er i = 0) → (S.eff (i + 1)).length = A.add (S.eff i).length 1 ∧ ∀ j f, j < (S.eff (i + 1)).length → f < 1 → appAt A (S.eff i).length (fun j _ => .dv (ldsAt S i j)) (listAt 1 [.dv (.seq (S.m i) 1 (S.g i))]) j f = .dv (ldsAt S (i + 1) j) := fun h h2 => by
    have e : S.eff (i + 1) = S.eff i ++ [i] := by rw [Ents.eff, if_pos ((okE_iff S i).2 h2)]
    subst hA
    refine ⟨by rw [e]; simp [std], fun j f hj hf => ?_⟩
    obtain rfl : f = 0 := by omega
    rw [e] at hj
    simp only [List.length_append, List.length_singleton] at hj
    simp only [appAt, ldsAt, e]
    by_cases hjl : j < (S.eff i).length
    · rw [if_pos hjl, List.getD_eq_getElem?_getD, List.getD_eq_getElem?_getD, List.getElem?_append_left hjl]
    · obtain rfl : j = (S.eff i).length := by omega
      rw [if_neg hjl]
      simp [std, listAt, lget]
  have q7 : i < n → A.bin .add .i64 (A.ofN i) 1 = A.ofN (i + 1) := by intro h; subst hA; simp; rw [w64_in (by omega)]
  have hstep1 : i < n → ∀ e (m : List (Chunk Ob)), S.eff (i + 1) = S.eff i → LLe [0, 1, 2] e (envOf 71 [(8, .ptr 0 0), (33, .dv (.seq n 8 GS)), (34, .dv (.int .i64 (A.ofN n))), (35, .dv (.int .i64 (A.bin .add .i64 (A.ofN i) 1)))]) → Ent 0 (⟨e, smem n GS k GT room (fun _ => false) (S.eff i).length (ldsAt S i) ++ m⟩ : St Ob) J := by
    intro h e m heq hl
    have e1 : ldsAt S (i + 1) = ldsAt S i := by funext j; simp only [ldsAt, heq]
    subst hJ
    rw [e1, heq]
    rw [q7 h] at hl
    exact Ent.ren [0, 1, 2] rfl rfl ⟨⟨rfl, rfl, rfl, rfl, rfl, trivial⟩, rfl, ⟨rfl, rfl, fun _ _ _ _ => rfl⟩, trivial⟩ hl
  have hstep2 : i < n → ∀ e c1 c2 c3 at_ N, (S.eff (i + 1)).length = N → (∀ j f, j < (S.eff (i + 1)).length → f < 1 → at_ j f = .dv (ldsAt S (i + 1) j)) → LLe [0, 1, 5] e (envOf 71 [(8, .ptr 0 0), (33, .dv (.seq n 8 GS)), (34, .dv (.int .i64 (A.ofN n))), (35, .dv (.int .i64 (A.bin .add .i64 (A.ofN i) 1)))]) →
        Ent 0 (⟨e, [.blk [.one (.dv (.seq n 8 GS)), .one (.dv (.seq k 8 GT)), .one (.dv (.int .i64 room)), .one (.vec 5), .one (.mp 1)], .mset 2 (fun _ => false), c1, c2, c3, .vec N 1 at_]⟩ : St Ob) J := by
    intro h e c1 c2 c3 at_ N hN hat hl
    subst hJ hN
    rw [q7 h] at hl
    refine Ent.ren [0, 1, 5] rfl rfl ⟨⟨rfl, rfl, rfl, rfl, rfl, trivial⟩, rfl, ⟨rfl, rfl, fun j f hj hf => ?_⟩, trivial⟩ hl
    rw [hat j f hj hf]; rfl
  clear hJ q7
  generalize hL : ldsAt S i = L at *
  generalize hp : (S.eff i).length = p at *
  cbv
  refine bc_split (fun d4 => ?_) (fun d4 => ?_)
  · have g1 := l1 d4
    cbv
    refine ⟨(hin g1).1, fun r hr hr2 => ?_⟩
    obtain rfl : i = r := (hin g1).2.trans hr.symm
    clear hr
    cbv
    rw [S.h0 i g1, S.h1 i g1, S.h2 i g1, S.h3 i g1, S.h4 i g1, S.h5 i g1, S.h6 i g1, S.h7 i g1]
    cbv
    refine bc_split (fun d5 => ?_) (fun d5 => ?_)
    · have g2 : S.en i = 0 := by subst hA; simpa using d5
      cbv
      repeat (refine Chk.mk trivial ?_; cbv)
      refine ⟨hroom, ?_⟩
      cbv
      repeat (refine Chk.mk trivial ?_; cbv)
      exact ⟨g1, hstep2 g1 _ _ _ _ _ _ (hyes g1 (.inl g2)).1 (hyes g1 (.inl g2)).2 (by cbv; all_goals trivial)⟩
    · have g2 : ¬ S.en i = 0 := by subst hA; simpa using d5
      cbv
      refine bc_split (fun d6 => ?_) (fun d6 => ?_)
      · have g3 : S.er i = 0 := by subst hA; simpa using d6
        cbv
        repeat (refine Chk.mk trivial ?_; cbv)
        refine ⟨hroom, ?_⟩
        cbv
        repeat (refine Chk.mk trivial ?_; cbv)
        exact ⟨g1, hstep2 g1 _ _ _ _ _ _ (hyes g1 (.inr g3)).1 (hyes g1 (.inr g3)).2 (by cbv; all_goals trivial)⟩
      · have g3 : ¬ S.er i = 0 := by subst hA; simpa using d6
        cbv
        exact ⟨g1, hstep1 g1 _ [_] (hno g1 (fun h => h.elim g2 g3)) (by cbv; all_goals trivial)⟩
  · have g1 := l2 d4
    clear hstep1 hstep2 hyes hno hin l1 l2
    cbv
    refine call_at hP [0, 1, 2] code_order_search_from (hfrom' g1) rfl ⟨⟨rfl, rfl, rfl, rfl, rfl, trivial⟩, rfl, ⟨rfl, rfl, fun _ _ _ _ => rfl⟩, trivial⟩ ⟨rfl, rfl, rfl, trivial⟩ ?_
    rintro _ _ (⟨l, has, ho, rfl, rfl⟩ | ⟨has, ho, rfl, rfl, _⟩ | ⟨has, ho, rfl, rfl⟩) _
    · obtain ⟨z, hz⟩ : ∃ z : Nat → Int, ∀ j, z j = ((l.reverse.getD j 0 : Nat) : Int) := ⟨_, fun _ => rfl⟩
      have hrev := ok_Reverse l.length z (hlen0 l ho)
      have hzr : ∀ i f : Nat, i < l.length → f < 1 → SV.dv (.int .i64 (z (l.length - 1 - i))) = .dv (.int .i64 ((l.getD i 0 : Nat) : Int)) := fun i f h _ => by
        rw [hz, List.getD_eq_getElem?_getD, List.getElem?_reverse (by omega), List.getD_eq_getElem?_getD]
        congr 5; omega
      have hnm : ∀ σ i f, renV σ (nm l.reverse i f) = .dv (.int .i64 (z i)) := fun _ i _ => by rw [hz]; rfl
      have eT' := fun m h at_ => eT m h l at_ ho
      generalize nm l.reverse = N1 at *
      generalize hLe : l.length = Le at *
      clear eT hz hlen0 eF eN ho
      generalize (fun (i f : Nat) => SV.dv (.int .i64 ((l.getD i 0 : Nat) : Int))) = tgt at *
      cbv
      refine bc_false (by subst hA; rfl) ?_
      cbv
      refine call_at hP [3] code_slices_Reverse_Sint_int hrev rfl ⟨⟨rfl, rfl, fun i f _ _ => by simp only [hnm]; rfl⟩, trivial⟩ ⟨rfl, trivial⟩ ?_
      rintro _ _ rfl _
      cbv
      exact eT' _ 3 _ rfl hzr
    · cbv
      refine bc_true (by subst hA; rfl) ?_
      cbv
      exact eF _ ho
    · cbv
      refine bc_false (by subst hA; rfl) ?_
      cbv
      refine call_pure hP code_slices_Reverse_Sint_int ok_Reverse_nil (by cbv; all_goals trivial) ?_
      rintro _ _
      cbv
      exact eN _ ho

theorem ok_Fits {n : Nat} {GS : Nat → Nat → DV} (S : Ents n GS) {k : Nat} {GT : Nat → Nat → DV} (T : Ents k GT) (room : Int) (hN : n + k < 1000) :
    CallOK (O := Ob) PR n_order_Fits [.dv (.seq n 8 GS), .dv (.seq k 8 GT), .dv (.int .i64 room)] [] fun r m => (∃ v, v = (witO S T room).isSome ∧ r = .dv (.bool v)) ∧ m = [] := by
  refine CallOK.drop (fn_walk mixed fn_order_Fits fun A P hA hP Q hQ => ?_)
  cbv
  refine call_pure hP code_order_Witness (ok_Witness S T room hN) (by cbv; all_goals trivial) ?_
  rintro _ ⟨l, b, hb, rfl⟩
  cbv
  subst hQ hA
  refine ⟨.dv (.bool b), rfl, b, ?_, rfl⟩
  rcases hb with ⟨rfl, h⟩ | ⟨rfl, h, _⟩ <;> rw [h] <;> rfl

end Go.Proofs.Ytophlodlencgiaa
