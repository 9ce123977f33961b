/-
  Walks: the order by trying all, from any place on; few entries; entries taken over.
-/
import Derived.Test.YtophlodlencgiaaOrdP
import Derived.Test.YtophlodlencgiaaVchD
namespace Go.Proofs.Ytophlodlencgiaa
open Go.V
set_option linter.unusedVariables false
set_option linter.unusedSimpArgs false
set_option maxRecDepth 100000
set_option maxHeartbeats 8000000

theorem sameW_congr {n : Nat} {x : Nat → Int} {m : Nat} {y y' : Nat → Int} (h : ∀ z, z < m → y z = y' z) : sameW n x m y = sameW n x m y' := by
  have : sameW n x m y = true ↔ sameW n x m y' = true := by
    rw [sameW_iff, sameW_iff]
    constructor
    · rintro ⟨rfl, h1⟩; exact ⟨rfl, fun z hz => (h1 z hz).trans (h z hz)⟩
    · rintro ⟨rfl, h1⟩; exact ⟨rfl, fun z hz => (h1 z hz).trans (h z hz).symm⟩
  cases h1 : sameW n x m y <;> cases h2 : sameW n x m y' <;> simp_all

theorem Lds.step {n : Nat} {G : Nat → Nat → DV} {S : Ents n G} {i : Nat} (hi : i < n) {L : Nat → Nat → DV} {lm : Nat → Nat} {lg : Nat → Nat → Nat → DV} (h : Lds S (S.eff i).length L lm lg) {p' : Nat} {L' : Nat → Nat → DV} {m0 : Nat} {g0 : Nat → Nat → DV} (hm0 : m0 = S.m i) (hg0 : ∀ y, y < m0 → g0 y 0 = .int .i64 (S.x i y))
    (hy : S.en i = 0 ∨ S.er i = 0 → p' = (S.eff i).length + 1 ∧ (∀ j, j < (S.eff i).length → L' j 0 = L j 0) ∧ L' (S.eff i).length 0 = .seq m0 1 g0) (hn : ¬ (S.en i = 0 ∨ S.er i = 0) → p' = (S.eff i).length ∧ ∀ j, j < (S.eff i).length → L' j 0 = L j 0) :
    p' = (S.eff (i + 1)).length ∧ ∃ lm' lg', Lds S (S.eff (i + 1)).length L' lm' lg' := by
  by_cases hok : S.en i = 0 ∨ S.er i = 0
  · obtain ⟨h1, h2, h3⟩ := hy hok
    have e : S.eff (i + 1) = S.eff i ++ [i] := by rw [Ents.eff, if_pos ((okE_iff S i).2 hok)]
    have hlen : (S.eff (i + 1)).length = (S.eff i).length + 1 := by rw [e]; simp
    have hmsg : S.msg (S.eff i).length = i := by
      rw [Ents.msg, S.eff_at (i := i + 1) (by omega) (by omega), e]
      simp
    refine ⟨by omega, fun l => if l < (S.eff i).length then lm l else m0, fun l => if l < (S.eff i).length then lg l else g0, ⟨fun j hj => ?_, fun j hj => ?_, fun j hj y hy => ?_⟩⟩
    all_goals by_cases hlt : j < (S.eff i).length
    · rw [if_pos hlt, if_pos hlt, h2 j hlt]; exact h.at_ j hlt
    · obtain rfl : j = (S.eff i).length := by omega
      rw [if_neg hlt, if_neg hlt]; exact h3
    · rw [if_pos hlt]; exact h.m j hlt
    · obtain rfl : j = (S.eff i).length := by omega
      rw [if_neg hlt, hmsg]; exact hm0
    · rw [if_pos hlt] at hy ⊢; exact h.x j hlt y hy
    · obtain rfl : j = (S.eff i).length := by omega
      rw [if_neg hlt] at hy ⊢
      rw [hmsg]; exact hg0 y hy
  · obtain ⟨h1, h2⟩ := hn hok
    have e : S.eff (i + 1) = S.eff i := by rw [Ents.eff, if_neg (by rwa [okE_iff])]
    refine ⟨by rw [e]; exact h1, lm, lg, ?_⟩
    rw [e]
    exact ⟨fun j hj => (h2 j hj).trans (h.at_ j hj), h.m, h.x⟩

theorem Lds.same {n : Nat} {G : Nat → Nat → DV} {S : Ents n G} {p : Nat} {L L' : Nat → Nat → DV} {lm : Nat → Nat} {lg : Nat → Nat → Nat → DV} (h : Lds S p L lm lg) (h2 : ∀ j, j < p → L' j 0 = L j 0) : Lds S p L' lm lg :=
  ⟨fun j hj => (h2 j hj).trans (h.at_ j hj), h.m, h.x⟩

set_option maxHeartbeats 1000000 in
theorem okR_goes {n : Nat} {GS : Nat → Nat → DV} (S : Ents n GS) {k : Nat} {GT : Nat → Nat → DV} (T : Ents k GT) (room : Int) (hroom : -9223372036854775808 ≤ room ∧ room ≤ 9223372036854775807) (hkS : ∀ i, i < n → S.kd i = 1) (hkT : ∀ j, j < k → T.kd j = 2 ∨ T.kd j = 3)
    (shS : ∀ x, x < n → S.en x = 0 → x + 1 = n) (shT : ∀ x, x < k → T.en x = 0 → x + 1 = k) (hN : n + k < 1000) : ∀ (c i j n' k' : Nat) (GS' GT' : Nat → Nat → DV) (S' : Ents n' GS') (T' : Ents k' GT'), n' + k' = c → Suf S i S' → Suf T j T' → Cnt S T i j →
    ∀ (L : Nat → Nat → DV) (lm : Nat → Nat) (lg : Nat → Nat → Nat → DV) (pu go ba at' many : Int), Lds S (S.eff i).length L lm lg → pu = (S.eff i).length → go = T.got j → ba = T.back j → at' = j → many = n →
    CallOK (O := Ob) PR n_ref21_goes [.agg [.dv (.int .i64 room), .dv (.seq (S.eff i).length 1 L), .dv (.int .i64 pu), .dv (.int .i64 go), .dv (.int .i64 ba)], .dv (.seq n' 8 GS'), .dv (.seq k' 8 GT'), .dv (.int .i64 at'), .dv (.int .i64 many)] []
      fun r m => goesQ (ord S T room i j) r ∧ m = [] := by
  intro c
  induction c using Nat.strongRecOn with
  | _ c ih =>
  intro i j n' k' GS' GT' S' T' hc hS hT hcnt L lm lg pu go ba at' many hL hpu hgo hba hat hmany
  have hl1 := hS.len
  have hl2 := hT.len
  have hi : i ≤ n := by omega
  have hj : j ≤ k := by omega
  have hbool : ∀ {f : FuncId} {args : List SV} {p : Prop} [Decidable p], CallOK (O := Ob) PR f args [] (fun r m => (∃ v, (v = true ↔ p) ∧ r = .dv (.bool v)) ∧ m = []) → CallOK (O := Ob) PR f args [] (fun r m => r = .dv (.bool (decide p)) ∧ m = []) := by
    intro f args p _ h
    refine h.ent fun r m hq => ⟨r, m, Ent.refl _ _, ?_, hq.2⟩
    obtain ⟨⟨v, hv, rfl⟩, _⟩ := hq
    have : v = decide p := by
      by_cases hp : p
      · rw [decide_eq_true hp]; exact hv.2 hp
      · rw [decide_eq_false hp]; cases v
        · rfl
        · exact (hp (hv.1 rfl)).elim
    rw [this]
  have hcong : ∀ {f : FuncId} {args : List SV} {p q : Prop}, (p ↔ q) → CallOK (O := Ob) PR f args [] (fun r m => (∃ v, (v = true ↔ p) ∧ r = .dv (.bool v)) ∧ m = []) → CallOK (O := Ob) PR f args [] (fun r m => (∃ v, (v = true ↔ q) ∧ r = .dv (.bool v)) ∧ m = []) := by
    intro f args p q e h
    have : p = q := propext e
    subst this
    exact h
  have hp : (S.eff i).length < 1000 := by have := S.eff_len i; omega
  have hb := hcnt.1
  have hg := hcnt.2
  have hxs : ∀ y, y < (S.eff i).length → ∀ z, z < lm y → lg y z 0 = .int .i64 (S.x (S.msg y) z) := hL.x
  have doesI_same : ∀ (a1 a2 a3 : Int) (b1 b2 : Bool), (T.got j < (S.eff i).length → b1 = b2) → doesI room pu go ba a1 a2 a3 b1 = doesI room pu go ba a1 a2 a3 b2 := by
    intro a1 a2 a3 b1 b2 h
    by_cases hlt : T.got j < (S.eff i).length
    · rw [h hlt]
    · have : ¬ go + 1 ≤ pu := by omega
      simp [doesI, this]
  obtain ⟨GS1, hGS1⟩ : ∃ G1 : Nat → Nat → DV, ∀ x f, G1 x f = GS' (1 + x) f := ⟨_, fun _ _ => rfl⟩
  obtain ⟨GT1, hGT1⟩ : ∃ G1 : Nat → Nat → DV, ∀ x f, G1 x f = GT' (1 + x) f := ⟨_, fun _ _ => rfl⟩
  have eS : 0 < n' → doesI room pu go ba (S'.kd 0) (S'.en 0) (S'.er 0) (sameW (lm go.toNat) (fun z => S.x (S.msg go.toNat) z) (S'.m 0) (S'.x 0)) = stS S T room i j := by
    intro h0
    rw [hS.kd 0 h0, hS.en 0 h0, hS.er 0 h0, stS, ← hpu, ← hgo, ← hba]
    refine doesI_same _ _ _ _ _ fun hlt => ?_
    have e : go.toNat = T.got j := by omega
    rw [e, hL.m _ hlt, hS.m 0 h0]
    exact sameW_congr fun z hz => hS.x 0 h0 z (by rw [hS.m 0 h0]; exact hz)
  have eT : 0 < k' → doesI room pu go ba (T'.kd 0) (T'.en 0) (T'.er 0) (sameW (lm go.toNat) (fun z => S.x (S.msg go.toNat) z) (T'.m 0) (T'.x 0)) = stT S T room i j := by
    intro h0
    rw [hT.kd 0 h0, hT.en 0 h0, hT.er 0 h0, stT, ← hpu, ← hgo, ← hba]
    refine doesI_same _ _ _ _ _ fun hlt => ?_
    have e : go.toNat = T.got j := by omega
    rw [e, hL.m _ hlt, hT.m 0 h0]
    exact sameW_congr fun z hz => hT.x 0 h0 z (by rw [hT.m 0 h0]; exact hz)
  have hlen : ∀ a b l, ord S T room a b = some l → a ≤ n → b ≤ k → l.length < 1000 := fun a b l h _ _ => by have := ord_len S T room _ _ _ l h; omega
  have hgoS : goS S T room i j = (decide (0 < n') && (!decide (T.late j (S.be i)) && !decide (S.late (i + 1) (S.be i))) && (stS S T room i j).2) := by
    rw [goS]; congr 1
    rw [show decide (i < n ∧ ¬ T.late j (S.be i) ∧ ¬ S.late (i + 1) (S.be i)) = decide (0 < n' ∧ ¬ T.late j (S.be i) ∧ ¬ S.late (i + 1) (S.be i)) by congr 1; apply propext; constructor <;> (rintro ⟨h1, h2⟩; exact ⟨by omega, h2⟩)]
    simp
  have hgoT : goT S T room i j = (decide (0 < k') && (!decide (S.late i (T.be j)) && !decide (T.late (j + 1) (T.be j))) && (stT S T room i j).2) := by
    rw [goT]; congr 1
    rw [show decide (j < k ∧ ¬ S.late i (T.be j) ∧ ¬ T.late (j + 1) (T.be j)) = decide (0 < k' ∧ ¬ S.late i (T.be j) ∧ ¬ T.late (j + 1) (T.be j)) by congr 1; apply propext; constructor <;> (rintro ⟨h1, h2⟩; exact ⟨by omega, h2⟩)]
    simp
  refine okR_goes_walk S T room i j S' T' hl1 hl2 hN L pu go ba (S.eff i).length hGS1 hGT1 (n' - 1) (k' - 1) rfl rfl at' (at' + 1) many (by omega) rfl (by omega) (decide (S.done i)) (by simp) (decide (T.done j)) (by simp) (ord S T room i j)
    (decide (T.late j (S.be i))) (decide (S.late (i + 1) (S.be i))) (decide (S.late i (T.be j))) (decide (T.late (j + 1) (T.be j))) (stS S T room i j).2 (stT S T room i j).2 (by simp) (by simp) (by simp) (by simp)
    ?_ ?_ ?_ ?_ ?_ ?_ (ord S T room (i + 1) j) (ord S T room i (j + 1)) ?_ ?_ ?_ ?_ ?_ ?_ ?_ ?_
  · simpa only [decide_not] using hbool (hcong (hS.done shS) (okR_left S'))
  · simpa only [decide_not] using hbool (hcong (hT.done shT) (okR_left T'))
  · intro h0
    exact hbool (hcong (by rw [hT.late, hS.be 0 h0]; rfl) (okR_late T' (S'.co 0) (S'.pe 0) (S'.kd 0) (S'.be 0) (S'.en 0) (S'.er 0) (S'.m 0) (S'.g 0) (S'.ha 0)))
  · intro h0
    obtain ⟨S1, hS1⟩ := hS.one h0 hGS1
    exact hbool (hcong (by rw [hS1.late, hS.be 0 h0]; rfl) (okR_late S1 (S'.co 0) (S'.pe 0) (S'.kd 0) (S'.be 0) (S'.en 0) (S'.er 0) (S'.m 0) (S'.g 0) (S'.ha 0)))
  · intro h0
    exact hbool (hcong (by rw [hS.late, hT.be 0 h0]; rfl) (okR_late S' (T'.co 0) (T'.pe 0) (T'.kd 0) (T'.be 0) (T'.en 0) (T'.er 0) (T'.m 0) (T'.g 0) (T'.ha 0)))
  · intro h0
    obtain ⟨T1, hT1⟩ := hT.one h0 hGT1
    exact hbool (hcong (by rw [hT1.late, hT.be 0 h0]; rfl) (okR_late T1 (T'.co 0) (T'.pe 0) (T'.kd 0) (T'.be 0) (T'.en 0) (T'.er 0) (T'.m 0) (T'.g 0) (T'.ha 0)))
  · intro h0
    obtain ⟨S1, hS1⟩ := hS.one h0 hGS1
    refine CallOK.ent (okR_Does room hroom (S.eff i).length lm lg (fun l z => S.x (S.msg l) z) L hL.at_ hL.x hp pu go ba (by omega) (by omega) (by omega) (by omega) (S'.co 0) (S'.pe 0) (S'.kd 0) (S'.be 0) (S'.en 0) (S'.er 0) (S'.m 0) (S'.g 0) (S'.x 0) (S'.hx 0 h0) (S'.ha 0)) ?_
    rintro r m ⟨⟨room', pu', go', ba', p', L', v, rfl, hv, hq⟩, hm⟩
    rw [eS h0] at hv hq
    subst hv
    refine ⟨_, m, Ent.refl _ _, ⟨room', pu', go', ba', p', L', rfl, fun hs => ?_⟩, hm⟩
    obtain ⟨rfl, h1, h2, h3⟩ := hq hs
    rw [stS_cnt S T room' (hkS i (by omega))] at h1
    simp only [Prod.mk.injEq] at h1
    obtain ⟨h4, h5, h6⟩ := h1
    rw [hS.kd 0 h0, hS.en 0 h0, hS.er 0 h0, show i + 0 = i from rfl, hkS i (by omega)] at h2 h3
    obtain ⟨h7, lm', lg', hL'⟩ := hL.step (by omega) (m0 := S'.m 0) (g0 := S'.g 0) (hS.m 0 h0) (fun y hy => by rw [S'.hx 0 h0 y hy, hS.x 0 h0 y hy]; rfl) (fun h => h2 ⟨rfl, h⟩) (fun h => h3 fun h' => h h'.2)
    subst h7
    exact ih _ (by omega) (i + 1) j (n' - 1) k' GS1 GT' S1 T' rfl hS1 hT hcnt.stepS L' lm' lg' pu' go' ba' at' many hL' h4 h5 h6 hat hmany
  · intro h0
    obtain ⟨T1, hT1⟩ := hT.one h0 hGT1
    refine CallOK.ent (okR_Does room hroom (S.eff i).length lm lg (fun l z => S.x (S.msg l) z) L hL.at_ hL.x hp pu go ba (by omega) (by omega) (by omega) (by omega) (T'.co 0) (T'.pe 0) (T'.kd 0) (T'.be 0) (T'.en 0) (T'.er 0) (T'.m 0) (T'.g 0) (T'.x 0) (T'.hx 0 h0) (T'.ha 0)) ?_
    rintro r m ⟨⟨room', pu', go', ba', p', L', v, rfl, hv, hq⟩, hm⟩
    rw [eT h0] at hv hq
    subst hv
    refine ⟨_, m, Ent.refl _ _, ⟨room', pu', go', ba', p', L', rfl, fun hs => ?_⟩, hm⟩
    obtain ⟨rfl, h1, h2, h3⟩ := hq hs
    have hk := hkT j (by omega)
    rw [stT_cnt S T room' hk] at h1
    simp only [Prod.mk.injEq] at h1
    obtain ⟨h4, h5, h6⟩ := h1
    rw [hT.kd 0 h0, show j + 0 = j from rfl] at h2 h3
    obtain ⟨rfl, h7⟩ := h3 (fun h => by omega)
    exact ih _ (by omega) i (j + 1) n' (k' - 1) GS' GT1 S' T1 rfl hS hT1 (hcnt.stepT S T room' hk hs) L' lm lg pu' go' ba' (at' + 1) many (hL.same h7) h4 h5 h6 (by omega) hmany
  · intro l h
    have := ord_len S T room _ _ _ l h; omega
  · intro l h
    have := ord_len S T room _ _ _ l h; omega
  · intro h1 h2
    exact ord_done S T room ⟨of_decide_eq_true h1, of_decide_eq_true h2⟩
  · intro hnd h0 h1 h2 h3 l ho
    rw [ord_step S T room hi hj (by simpa using hnd), hgoS, h1, h2, h3, ho]
    simp [h0]
  · intro hnd hn1 h0 h1 h2 h3 l ho
    rw [ord_step S T room hi hj (by simpa using hnd)]
    have e1 : (if goS S T room i j = true then (ord S T room (i + 1) j).map (i :: ·) else none) = none := by
      split
      · rename_i hg
        rw [hgoS] at hg
        simp only [Bool.and_eq_true, decide_eq_true_eq, Bool.not_eq_true'] at hg
        rw [hn1 hg.1.1 hg.1.2.1 hg.1.2.2 hg.2]; rfl
      · rfl
    rw [e1, hgoT, h1, h2, h3, ho]
    simp [h0]
  · intro hnd hn1 hn2
    rw [ord_step S T room hi hj (by simpa using hnd)]
    have e1 : (if goS S T room i j = true then (ord S T room (i + 1) j).map (i :: ·) else none) = none := by
      split
      · rename_i hg
        rw [hgoS] at hg
        simp only [Bool.and_eq_true, decide_eq_true_eq, Bool.not_eq_true'] at hg
        rw [hn1 hg.1.1 hg.1.2.1 hg.1.2.2 hg.2]; rfl
      · rfl
    have e2 : (if goT S T room i j = true then (ord S T room i (j + 1)).map ((n + j) :: ·) else none) = none := by
      split
      · rename_i hg
        rw [hgoT] at hg
        simp only [Bool.and_eq_true, decide_eq_true_eq, Bool.not_eq_true'] at hg
        rw [hn2 hg.1.1 hg.1.2.1 hg.1.2.2 hg.2]; rfl
      · rfl
    rw [e1, e2]

end Go.Proofs.Ytophlodlencgiaa
