/-
  The laws' arguments, read.
-/
import Derived.Test.YtiaceoomiflgcaaGreatSdJ
import Derived.Test.YtiaceoomiflgcaaGreatSeIr
import Derived.Test.YtiaceoomiflgcaaGreatSdF
import Derived.Test.YtiaceoomiflgcaaGreatVcgW
section
namespace Go.Proofs.YtiaceoomiflgcaaGreat
open Go.V
set_option linter.unusedVariables false
set_option linter.unusedSimpArgs false
set_option maxRecDepth 100000
set_option maxHeartbeats 8000000

def Tot (S : SocS) (f : FuncId) (args : List SV) (R : SV → Prop) : Prop := CallOK (O := Ob) PR f args [.obj (socO S)] fun v m => R v ∧ ∃ S', Nxt S S' ∧ m = [.obj (socO S')]

theorem Nxt.trans {S T U : SocS} (h : Nxt S T) (k : Nxt T U) : Nxt S U := ⟨k.1, k.2.1.trans h.2.1, k.2.2.1.trans h.2.2.1, k.2.2.2.trans h.2.2.2⟩

theorem SocS.ok.setB {S : SocS} (hS : S.ok) (B : BusS) (h1 : B.ok) (h2 : B.cores = S.B.cores) (h3 : B.n = S.B.n) (h4 : ∀ i, i < S.c → S.hd i = true → B.bufs i = []) : Nxt S { S with B := B } :=
  ⟨⟨hS.hc, hS.hn, hS.hk, h1, h2.trans hS.hBc, h3.trans hS.hBn, hS.hX, hS.hXc, hS.how, hS.hep, fun j hj hh => ⟨h4 j hj hh, (hS.hhd j hj hh).2⟩⟩, rfl, rfl, rfl⟩
theorem SocS.ok.setX {S : SocS} (hS : S.ok) (X : BoxS) (h1 : X.ok) (h2 : X.cores = S.c) : Nxt S { S with X := X } :=
  ⟨⟨hS.hc, hS.hn, hS.hk, hS.hB, hS.hBc, hS.hBn, h1, h2, hS.how, hS.hep, hS.hhd⟩, rfl, rfl, rfl⟩
theorem SocS.ok.setK {S : SocS} (hS : S.ok) (ow : Nat → Int) (h1 : ∀ i, 0 ≤ ow i ∧ ow i ≤ S.c) (h2 : ∀ j, j < S.c → S.hd j = true → ∀ i, ow i ≠ (j : Int) + 1) : Nxt S { S with ow := ow } :=
  ⟨⟨hS.hc, hS.hn, hS.hk, hS.hB, hS.hBc, hS.hBn, hS.hX, hS.hXc, h1, hS.hep, fun j hj hh => ⟨(hS.hhd j hj hh).1, h2 j hj hh⟩⟩, rfl, rfl, rfl⟩

/-- The stores of a core go out. -/
def BusS.fen (B : BusS) (j : Nat) : BusS := B.upd (rputs B.r (B.bufs j)) j []
def SocS.fen (S : SocS) (j : Nat) : SocS := { S with B := S.B.fen j }

theorem SocS.ok.fen {S : SocS} (hS : S.ok) (j : Nat) (hj : j < S.c) : Nxt S (S.fen j) := by
  refine hS.setB _ (S.B.fence_ok hS.hB j (by rw [hS.hBc]; exact hj)) rfl rfl fun i hi hh => ?_
  show (if i = j then [] else S.B.bufs i) = []
  split
  · rfl
  · exact (hS.hhd i hi hh).1

theorem bfen (S : SocS) (hS : S.ok) (j : Nat) (hj : j < S.c) : BFen (busO S.B) (busO (S.fen j).B) j :=
  (busFence S.B hS.hB j (by rw [hS.hBc]; exact hj)).mono fun v m ⟨hv, hm⟩ => ⟨⟨_, hv⟩, hm⟩

/-- Behind a call that changed the mailboxes too. -/
theorem Nxt.box {S T : SocS} (h : Nxt S T) {X : Ob} (hX : isBox S.c X) : ∃ S', Nxt S S' ∧ S'.B = T.B ∧ S'.ow = T.ow ∧ S'.ep = T.ep ∧ S'.hd = T.hd ∧ socO S' = sO T.c T.n T.k (busO T.B) X (kO T.c T.k T.ow) (gO T.c T.ep T.hd) := by
  obtain ⟨Z, h1, h2, rfl⟩ := hX
  exact ⟨_, h.trans (h.1.setX Z h1 (h2.trans h.2.1.symm)), rfl, rfl, rfl, rfl, rfl⟩

/-- A core gets a lock, if it is free. -/
theorem lock_try (S : SocS) (hS : S.ok) (j y : Nat) (hj : j < S.c) (hh : S.hd j = false) (hy : y < S.k) : ∃ (b : Bool) (ow : Nat → Int), Nxt S { S with ow := ow } ∧
    ((b = true ∧ S.ow y = 0 ∧ ow = fun i => if i = y then (j : Int) + 1 else S.ow i) ∨ (b = false ∧ S.ow y ≠ 0 ∧ ow = S.ow)) ∧
    CallOK (O := Ob) PR n_locks_Bank_Try [.ptr 0 0, .dv (.int .i64 j), .dv (.int .i64 y)] [.obj (kO S.c S.k S.ow)] fun v m => v = .tup [.dv (.bool b), .dv (.int .i64 0)] ∧ m = [.obj (kO S.c S.k ow)] := by
  by_cases h0 : S.ow y = 0
  · refine ⟨true, _, ?_, .inl ⟨rfl, h0, rfl⟩, kTry0 S.c S.k S.ow hS.hc.2 hS.hk.2 j y hj hy h0⟩
    refine hS.setK _ (fun i => ?_) fun i hi hhi t => ?_
    · show 0 ≤ (if i = y then (j : Int) + 1 else S.ow i) ∧ (if i = y then (j : Int) + 1 else S.ow i) ≤ S.c
      split
      · omega
      · exact hS.how i
    · show (if t = y then (j : Int) + 1 else S.ow t) ≠ (i : Int) + 1
      split
      · intro e
        obtain rfl : j = i := by omega
        rw [hh] at hhi; cases hhi
      · exact (hS.hhd i hi hhi).2 t
  · exact ⟨false, S.ow, Nxt.refl hS, .inr ⟨rfl, h0, rfl⟩, kTry1 S.c S.k S.ow hS.hc.2 hS.hk.2 j y hj hy h0⟩

def Two (v : SV) : Prop := ∃ x e, v = .tup [.dv (.int .i64 x), .dv (.int .i64 e)]
def One (v : SV) : Prop := ∃ e, v = .dv (.int .i64 e)

theorem sRead_tot (S : SocS) (hS : S.ok) (j a : Int) (ha : a ≤ 9223372036854775807) : Tot S n_soc_Soc_Read [.ptr 0 0, .dv (.int .i64 j), .dv (.int .i64 a)] Two := by
  rcases at_cases S hS j a ha with ⟨e, he, h⟩ | ⟨i, rfl, hi, hh, x, y, z, h, hx⟩
  · exact (sRead_no _ _ _ _ _ _ _ j a e he h).mono fun v m ⟨hv, hm⟩ => ⟨⟨_, _, hv⟩, S, Nxt.refl hS, hm⟩
  · have hiB : i < S.B.cores := by rw [hS.hBc]; exact hi
    have hiX : i < S.X.cores := by rw [hS.hXc]; exact hi
    have hf := bfen S hS i hi
    have hN := hS.fen i hi
    have hXX : isBox S.c (boxO S.X) := ⟨S.X, hS.hX, hS.hXc, rfl⟩
    rcases hx with ⟨rfl, rfl, rfl, hz⟩ | ⟨rfl, hy, hz⟩ | ⟨rfl, hy, rfl, rfl⟩ | ⟨rfl, hy, rfl, rfl⟩
    · exact (sRead_ram _ _ _ _ _ _ _ i z 0 z _ _ h (busLoad S.B hS.hB i z hiB (by rw [hS.hBn]; exact hz))).mono fun v m ⟨hv, hm⟩ => ⟨⟨_, _, hv⟩, S, Nxt.refl hS, hm⟩
    · by_cases hyi : y = i
      · subst hyi
        have fin : ∀ (v : SV) (m : List (Chunk Ob)), ((∃ x, v = .tup [.dv (.int .i64 x), .dv (.int .i64 0)]) ∧ ∃ X, isBox S.c X ∧ m = [.obj (sO S.c S.n S.k (busO (S.fen y).B) X (kO S.c S.k S.ow) (gO S.c S.ep S.hd))]) → Two v ∧ ∃ S', Nxt S S' ∧ m = [.obj (socO S')] := by
          rintro v m ⟨⟨u, hv⟩, X, hX, hm⟩
          obtain ⟨S', h1, _, _, _, _, h2⟩ := hN.box hX
          exact ⟨⟨_, _, hv⟩, S', h1, by rw [hm, h2]; rfl⟩
        rcases (by omega : z = 0 ∨ z = 1 ∨ z = 2) with rfl | rfl | rfl
        · exact (sRead_mail0 _ _ _ _ _ _ _ _ y a (isBox S.c) h hf ((boxPending S.X hS.hX y hiX).mono fun v m ⟨hv, hm⟩ => ⟨⟨_, _, hv⟩, _, hXX, hm⟩)).mono fin
        · refine (sRead_mail1 _ _ _ _ _ _ _ _ y a (isBox S.c) h hf ((boxTake S.X hS.hX y hiX).mono fun v m ⟨hv, hm⟩ => ⟨hv, ?_⟩)).mono fin
          rw [hS.hXc] at hm; exact hm.is
        · refine (sRead_mail2 _ _ _ _ _ _ _ _ y a (isBox S.c) h hf ((boxWaits S.X hS.hX y hiX).mono fun v m ⟨hv, hm⟩ => ⟨⟨_, hv⟩, ?_⟩)).mono fin
          rw [hS.hXc] at hm; exact hm.is
      · exact (sRead_mail_no _ _ _ _ _ _ _ i a y z (by omega) h).mono fun v m ⟨hv, hm⟩ => ⟨⟨_, _, hv⟩, S, Nxt.refl hS, hm⟩
    · obtain ⟨b, ow, hn, _, hc⟩ := lock_try S hS i y hi hh hy
      refine (sRead_lock _ _ _ _ _ _ _ _ _ i _ y 0 b h hf hc).mono fun v m ⟨hv, hm⟩ => ⟨⟨_, _, hv⟩, _, hn.trans (hn.1.fen i hi), hm⟩
    · exact (sRead_gate _ _ _ _ _ _ _ _ i _ y 0 _ h hf (gEpoch_in S.c S.ep S.hd hS.hc.2 y hy)).mono fun v m ⟨hv, hm⟩ => ⟨⟨_, _, hv⟩, _, hN, hm⟩

end Go.Proofs.YtiaceoomiflgcaaGreat

end

section
namespace Go.Proofs.YtiaceoomiflgcaaGreat
open Go.V
set_option linter.unusedVariables false
set_option linter.unusedSimpArgs false
set_option maxRecDepth 100000
set_option maxHeartbeats 8000000

theorem wordW (w : Int) : WordW w (w % 65536) := (ok_Word w).mono fun v m ⟨⟨x, hx, hv⟩, hm⟩ => ⟨by rw [hv, hx], hm⟩
theorem wordW_in (w : Int) (hw : 0 ≤ w ∧ w ≤ 65535) : WordW w w := word_in w hw

theorem BusS.store_buf (S : BusS) (j a w i : Nat) (hi : i ≠ j) : (S.store j a w).bufs i = S.bufs i := by
  unfold BusS.store; split <;> exact if_neg hi

theorem SocS.ok.store {S : SocS} (hS : S.ok) (j a w : Nat) (hj : j < S.c) (hh : S.hd j = false) (ha : a < S.n) (hw : w ≤ 65535) : Nxt S { S with B := S.B.store j a w } := by
  refine hS.setB _ (S.B.store_ok hS.hB j a w (by rw [hS.hBc]; exact hj) (by rw [hS.hBn]; exact ha) hw) ?_ ?_ fun i hi hhi => ?_
  · unfold BusS.store; split <;> rfl
  · unfold BusS.store; split <;> rfl
  · rw [S.B.store_buf j a w i fun e => by subst e; rw [hh] at hhi; cases hhi]
    exact (hS.hhd i hi hhi).1

theorem SocS.ok.free {S : SocS} (hS : S.ok) (y : Nat) : Nxt S { S with ow := fun t => if t = y then 0 else S.ow t } := by
  refine hS.setK _ (fun t => ?_) fun i hi hhi t => ?_
  · show 0 ≤ (if t = y then (0 : Int) else S.ow t) ∧ (if t = y then (0 : Int) else S.ow t) ≤ S.c
    split
    · omega
    · exact hS.how t
  · show (if t = y then (0 : Int) else S.ow t) ≠ (i : Int) + 1
    split
    · omega
    · exact (hS.hhd i hi hhi).2 t

theorem sWrite_tot (S : SocS) (hS : S.ok) (j a w : Int) (ha : a ≤ 9223372036854775807) : Tot S n_soc_Soc_Write [.ptr 0 0, .dv (.int .i64 j), .dv (.int .i64 a), .dv (.int .i64 w)] One := by
  rcases at_cases S hS j a ha with ⟨e, he, h⟩ | ⟨i, rfl, hi, hh, x, y, z, h, hx⟩
  · exact (sWrite_no _ _ _ _ _ _ _ j a w e he h).mono fun v m ⟨hv, hm⟩ => ⟨⟨_, hv⟩, S, Nxt.refl hS, hm⟩
  · have hiB : i < S.B.cores := by rw [hS.hBc]; exact hi
    have hiX : i < S.X.cores := by rw [hS.hXc]; exact hi
    have hf := bfen S hS i hi
    have hN := hS.fen i hi
    have fin : ∀ (v : SV) (m : List (Chunk Ob)), ((∃ x, v = .dv (.int .i64 x)) ∧ ∃ X, isBox S.c X ∧ m = [.obj (sO S.c S.n S.k (busO (S.fen i).B) X (kO S.c S.k S.ow) (gO S.c S.ep S.hd))]) → One v ∧ ∃ S', Nxt S S' ∧ m = [.obj (socO S')] := by
      rintro v m ⟨⟨u, hv⟩, X, hX, hm⟩
      obtain ⟨S', h1, _, _, _, _, h2⟩ := hN.box hX
      exact ⟨⟨_, hv⟩, S', h1, by rw [hm, h2]; rfl⟩
    by_cases hw : 0 ≤ w ∧ w ≤ 65535
    · have hww := wordW_in w hw
      rcases hx with ⟨rfl, rfl, rfl, hz⟩ | ⟨rfl, hy, hz⟩ | ⟨rfl, hy, rfl, rfl⟩ | ⟨rfl, hy, rfl, rfl⟩
      · obtain ⟨u, rfl⟩ : ∃ u : Nat, w = u := ⟨w.toNat, by omega⟩
        exact (sWrite_ram _ _ _ _ _ _ _ _ i z u 0 z _ hww h (busStore S.B hS.hB i z u hiB (by rw [hS.hBn]; exact hz) (by omega))).mono fun v m ⟨hv, hm⟩ => ⟨⟨_, hv⟩, _, hS.store i z u hi hh hz (by omega), hm⟩
      · by_cases hz2 : z = 2
        · subst hz2
          refine (sWrite_ring _ _ _ _ _ _ _ _ i a w y (isBox S.c) hww h hf ((boxRing S.X hS.hX i y hiX (by rw [hS.hXc]; exact hy) w hw).mono fun v m ⟨hv, hm⟩ => ⟨hv, ?_⟩)).mono fin
          rw [hS.hXc] at hm; exact hm.is
        · by_cases hz0 : z = 0 ∧ y = i
          · obtain ⟨rfl, rfl⟩ := hz0
            refine (sWrite_ack _ _ _ _ _ _ _ _ y a w (isBox S.c) hww h hf ((boxAck S.X hS.hX y hiX w).mono fun v m ⟨hv, hm⟩ => ⟨⟨_, hv⟩, ?_⟩)).mono fin
            rw [hS.hXc] at hm; exact hm.is
          · exact (sWrite_mail_no _ _ _ _ _ _ _ i a w y z (by omega) (by omega) h).mono fun v m ⟨hv, hm⟩ => ⟨⟨_, hv⟩, S, Nxt.refl hS, hm⟩
      · have ho := kOwner S.c S.k S.ow hS.hk.2 y hy (by have := hS.how y; have := hS.hc; omega)
        by_cases hoi : S.ow y = (i : Int) + 1
        · have e : S.ow y - 1 = (i : Int) := by omega
          rw [e] at ho
          refine (sWrite_lock _ _ _ _ _ _ _ _ _ i _ w y 0 hww h ho hf (kFree S.c S.k S.ow hS.hc.2 hS.hk.2 i y hi hy hoi)).mono fun v m ⟨hv, hm⟩ => ⟨⟨_, hv⟩, _, (hS.free y).trans ((hS.free y).1.fen i hi), hm⟩
        · exact (sWrite_lock_no _ _ _ _ _ _ _ i _ w y 0 _ hww h (by omega) ho).mono fun v m ⟨hv, hm⟩ => ⟨⟨_, hv⟩, S, Nxt.refl hS, hm⟩
      · exact (sWrite_gate _ _ _ _ _ _ _ i _ w y 0 h).mono fun v m ⟨hv, hm⟩ => ⟨⟨_, hv⟩, S, Nxt.refl hS, hm⟩
    · have hww := wordW w
      have hne : w ≠ w % 65536 := by omega
      rcases hx with ⟨rfl, rfl, rfl, hz⟩ | ⟨rfl, hy, hz⟩ | ⟨rfl, hy, rfl, rfl⟩ | ⟨rfl, hy, rfl, rfl⟩
      · exact (sWrite_arg1 _ _ _ _ _ _ _ i _ w _ _ _ _ (by omega) hww hne h).mono fun v m ⟨hv, hm⟩ => ⟨⟨_, hv⟩, S, Nxt.refl hS, hm⟩
      · by_cases hz2 : z = 2 ∨ (z = 0 ∧ y = i)
        · exact (sWrite_arg2 _ _ _ _ _ _ _ i a w _ y z (by omega) hww hne h).mono fun v m ⟨hv, hm⟩ => ⟨⟨_, hv⟩, S, Nxt.refl hS, hm⟩
        · exact (sWrite_mail_no _ _ _ _ _ _ _ i a w y z (by omega) (by omega) h).mono fun v m ⟨hv, hm⟩ => ⟨⟨_, hv⟩, S, Nxt.refl hS, hm⟩
      · exact (sWrite_arg1 _ _ _ _ _ _ _ i _ w _ _ _ _ (by omega) hww hne h).mono fun v m ⟨hv, hm⟩ => ⟨⟨_, hv⟩, S, Nxt.refl hS, hm⟩
      · exact (sWrite_gate _ _ _ _ _ _ _ i _ w y 0 h).mono fun v m ⟨hv, hm⟩ => ⟨⟨_, hv⟩, S, Nxt.refl hS, hm⟩

theorem sSwap_tot (S : SocS) (hS : S.ok) (j a w : Int) (ha : a ≤ 9223372036854775807) : Tot S n_soc_Soc_Swap [.ptr 0 0, .dv (.int .i64 j), .dv (.int .i64 a), .dv (.int .i64 w)] Two := by
  rcases at_cases S hS j a ha with ⟨e, he, h⟩ | ⟨i, rfl, hi, hh, x, y, z, h, hx⟩
  · exact (sSwap_no _ _ _ _ _ _ _ j a w e he h).mono fun v m ⟨hv, hm⟩ => ⟨⟨_, _, hv⟩, S, Nxt.refl hS, hm⟩
  · have hiB : i < S.B.cores := by rw [hS.hBc]; exact hi
    by_cases hx1 : x = 1
    · subst hx1
      obtain ⟨rfl, rfl, hz⟩ : y = 0 ∧ a = z ∧ z < S.n := by omega
      have hzB : z < S.B.n := by rw [hS.hBn]; exact hz
      by_cases hw : 0 ≤ w ∧ w ≤ 65535
      · obtain ⟨u, rfl⟩ : ∃ u : Nat, w = u := ⟨w.toNat, by omega⟩
        refine (sSwap_ram _ _ _ _ _ _ _ _ i z u 0 z _ _ h (busSwap S.B hS.hB i z u hiB hzB (by omega))).mono fun v m ⟨hv, hm⟩ => ⟨⟨_, _, hv⟩, { S with B := S.B.upd (rput (rputs S.B.r (S.B.bufs i)) z u) i [] }, ?_, hm⟩
        refine hS.setB _ (S.B.swap_ok hS.hB i z u hiB (by omega)) rfl rfl fun t ht hht => ?_
        show (if t = i then [] else S.B.bufs t) = []
        split
        · rfl
        · exact (hS.hhd t ht hht).1
      · exact (sSwap_ram _ _ _ _ _ _ _ _ i z w 0 z _ _ h (busSwap_no S.B hS.hB i z w hiB hzB hw)).mono fun v m ⟨hv, hm⟩ => ⟨⟨_, _, hv⟩, S, Nxt.refl hS, hm⟩
    · exact (sSwap_kind _ _ _ _ _ _ _ i a w x y z (by omega) h).mono fun v m ⟨hv, hm⟩ => ⟨⟨_, _, hv⟩, S, Nxt.refl hS, hm⟩

end Go.Proofs.YtiaceoomiflgcaaGreat

end

section
namespace Go.Proofs.YtiaceoomiflgcaaGreat
open Go.V
set_option linter.unusedVariables false
set_option linter.unusedSimpArgs false
set_option maxRecDepth 100000
set_option maxHeartbeats 8000000

theorem sFence_tot (S : SocS) (hS : S.ok) (j : Int) : Tot S n_soc_Soc_Fence [.ptr 0 0, .dv (.int .i64 j)] Two := by
  by_cases hj : 0 ≤ j ∧ j < S.c
  · obtain ⟨i, rfl⟩ : ∃ i : Nat, j = i := ⟨j.toNat, by omega⟩
    have hi : i < S.c := by omega
    have h1 := gEpoch_in S.c S.ep S.hd hS.hc.2 i hi
    have h2 := gUp_in S.c S.ep S.hd hS.hc.2 i hi
    cases hh : S.hd i with
    | true => rw [hh] at h2; exact (sFence_off _ _ _ _ _ _ _ i _ h1 h2).mono fun v m ⟨hv, hm⟩ => ⟨⟨_, _, hv⟩, S, Nxt.refl hS, hm⟩
    | false => rw [hh] at h2; exact (sFence_w _ _ _ _ _ _ _ _ i _ _ (busFence S.B hS.hB i (by rw [hS.hBc]; exact hi)) h1 h2).mono fun v m ⟨hv, hm⟩ => ⟨⟨_, _, hv⟩, _, hS.fen i hi, hm⟩
  · exact (sFence_core _ _ _ _ _ _ _ j _ (gEpoch_out S.c S.ep S.hd hS.hc.2 j hj)).mono fun v m ⟨hv, hm⟩ => ⟨⟨_, _, hv⟩, S, Nxt.refl hS, hm⟩

theorem sDrain_tot (S : SocS) (hS : S.ok) (j : Int) : Tot S n_soc_Soc_Drain [.ptr 0 0, .dv (.int .i64 j)] (fun v => ∃ b e, v = .tup [.dv (.bool b), .dv (.int .i64 e)]) := by
  by_cases hj : 0 ≤ j ∧ j < S.c
  · obtain ⟨i, rfl⟩ : ∃ i : Nat, j = i := ⟨j.toNat, by omega⟩
    have hi : i < S.c := by omega
    have hiB : i < S.B.cores := by rw [hS.hBc]; exact hi
    refine (sDrain_w _ _ _ _ _ _ _ _ i _ _ (busDrain S.B hS.hB i hiB)).mono fun v m ⟨hv, hm⟩ => ⟨⟨_, _, hv⟩, { S with B := S.B.upd (rput1 S.B.r (S.B.bufs i)) i (S.B.bufs i).tail }, ?_, hm⟩
    refine hS.setB _ (S.B.drain_ok hS.hB i hiB) rfl rfl fun t ht hht => ?_
    show (if t = i then (S.B.bufs i).tail else S.B.bufs t) = []
    split
    · rename_i e; subst e; rw [(hS.hhd t ht hht).1]; rfl
    · exact (hS.hhd t ht hht).1
  · exact (sDrain_w _ _ _ _ _ _ _ _ j _ _ (busDrain_no S.B hS.hB j (by rw [hS.hBc]; exact hj))).mono fun v m ⟨hv, hm⟩ => ⟨⟨_, _, hv⟩, S, Nxt.refl hS, hm⟩

/-- A core is held: its stores are lost, its locks free. -/
theorem sHold_in (S : SocS) (hS : S.ok) (i : Nat) (hi : i < S.c) (hh : S.hd i = false) :
    CallOK (O := Ob) PR n_soc_Soc_Hold [.ptr 0 0, .dv (.int .i64 i)] [.obj (socO S)] fun v m => v = .dv (.int .i64 0) ∧ ∃ S', Nxt S S' ∧ S'.ep = S.ep ∧ S'.hd i = true ∧ (S'.ow = fun t => if S.ow t = (i : Int) + 1 then 0 else S.ow t) ∧ m = [.obj (socO S')] := by
  have hiB : i < S.B.cores := by rw [hS.hBc]; exact hi
  have hiX : i < S.X.cores := by rw [hS.hXc]; exact hi
  refine (sHold_x _ _ _ _ _ _ _ _ _ _ i (isBox S.c) (gHold_in S.c S.ep S.hd hS.hc.2 i hi hh) ((busLose S.B hS.hB i hiB).mono fun v m ⟨hv, hm⟩ => ⟨⟨_, hv⟩, hm⟩)
    ((boxReset S.X hS.hX i hiX).mono fun v m ⟨hv, hm⟩ => ⟨⟨_, hv⟩, by rw [hS.hXc] at hm; exact hm.is⟩)
    (kRelease S.c S.k S.ow (fun t => if S.ow t = (i : Int) + 1 then 0 else S.ow t) hS.hc.2 hS.hk.2 i hi fun _ _ => rfl)).mono fun v m ⟨hv, X, ⟨Z, h1, h2, e⟩, hm⟩ => ⟨hv, ?_⟩
  subst e
  refine ⟨⟨S.c, S.n, S.k, S.B.upd S.B.r i [], Z, fun t => if S.ow t = (i : Int) + 1 then 0 else S.ow t, S.ep, fun t => if t = i then true else S.hd t⟩, ⟨⟨hS.hc, hS.hn, hS.hk, S.B.lose_ok hS.hB i hiB, hS.hBc, hS.hBn, h1, h2, fun t => ?_, hS.hep, fun t ht hht => ?_⟩, rfl, rfl, rfl⟩, rfl, if_pos rfl, rfl, hm⟩
  · show 0 ≤ (if S.ow t = (i : Int) + 1 then 0 else S.ow t) ∧ (if S.ow t = (i : Int) + 1 then 0 else S.ow t) ≤ (S.c : Int)
    split
    · omega
    · exact hS.how t
  · have hht : (if t = i then true else S.hd t) = true := hht
    have ht : t < S.c := ht
    refine ⟨?_, fun u => ?_⟩
    · show (if t = i then [] else S.B.bufs t) = []
      split
      · rfl
      · rename_i hne; rw [if_neg hne] at hht; exact (hS.hhd t ht hht).1
    · show (if S.ow u = (i : Int) + 1 then 0 else S.ow u) ≠ (t : Int) + 1
      split
      · omega
      · rename_i hne
        by_cases hti : t = i
        · subst hti; exact hne
        · rw [if_neg hti] at hht; exact (hS.hhd t ht hht).2 u

theorem sHold_busy (S : SocS) (hS : S.ok) (i : Nat) (hi : i < S.c) (hh : S.hd i = true) :
    CallOK (O := Ob) PR n_soc_Soc_Hold [.ptr 0 0, .dv (.int .i64 i)] [.obj (socO S)] fun v m => v = .dv (.int .i64 11) ∧ m = [.obj (socO S)] :=
  sHold_no _ _ _ _ _ _ _ i 11 (by omega) (gHold_no S.c S.ep S.hd hS.hc.2 i hi hh)

theorem sHold_tot (S : SocS) (hS : S.ok) (j : Int) : Tot S n_soc_Soc_Hold [.ptr 0 0, .dv (.int .i64 j)] One := by
  by_cases hj : 0 ≤ j ∧ j < S.c
  · obtain ⟨i, rfl⟩ : ∃ i : Nat, j = i := ⟨j.toNat, by omega⟩
    have hi : i < S.c := by omega
    cases hh : S.hd i with
    | true => exact (sHold_busy S hS i hi hh).mono fun v m ⟨hv, hm⟩ => ⟨⟨_, hv⟩, S, Nxt.refl hS, hm⟩
    | false => exact (sHold_in S hS i hi hh).mono fun v m ⟨hv, S', h1, _, _, _, h2⟩ => ⟨⟨_, hv⟩, S', h1, h2⟩
  · exact (sHold_no _ _ _ _ _ _ _ j 3 (by omega) (gHold_out S.c S.ep S.hd hS.hc.2 j hj)).mono fun v m ⟨hv, hm⟩ => ⟨⟨_, hv⟩, S, Nxt.refl hS, hm⟩

end Go.Proofs.YtiaceoomiflgcaaGreat

end

section
namespace Go.Proofs.YtiaceoomiflgcaaGreat
open Go.V
set_option linter.unusedVariables false
set_option linter.unusedSimpArgs false
set_option maxRecDepth 100000
set_option maxHeartbeats 8000000

theorem ok_Add1 (x : Int) (hx : 0 ≤ x ∧ x ≤ 65535) : CallOK (O := Ob) PR n_wrap_Add [.dv (.int .i64 x), .dv (.int .i64 1)] [] fun v m => v = .dv (.int .i64 ((x + 1) % 65536)) ∧ m = [] := by
  have h1 := word_in x hx
  have h2 := word_in 1 (by omega)
  have h3 := wordW (x + 1)
  unfold WordW at h3
  obtain ⟨y, e⟩ : ∃ y, y = x + 1 := ⟨_, rfl⟩
  rw [← e] at h3
  obtain ⟨z, e2⟩ : ∃ z, z = (x + 1) % 65536 := ⟨_, rfl⟩
  rw [← e2]
  rw [e, ← e2, ← e] at h3
  have ey : IntKind.i64.wrap (x + 1) = y := by rw [w64_in (by omega), e]
  clear e e2
  refine fn_walkv mixed fn_wrap_Add (Ent.refl _ _) fun bin cmp un conv bnot beq band sel isel ofN toN inb nz nneg lt le room' slb add sub sbin scmp slen sget ssub addk pc pb pi pf ps mkok min_ ig aeq P hP hA hF Q hQ => ?_
  have hs : bin .add .i64 x 1 = y := by simp only [hF]; exact ey
  cbv
  repeat' first
    | (refine call_pure hP code_wrap_Word (h1) ?_ ?_; (focus (cbv; (try simp); done)); rintro _ rfl; cbv)
    | (refine call_pure hP code_wrap_Word (h2) ?_ ?_; (focus (cbv; (try simp); done)); rintro _ rfl; cbv)
    | ((rw [hs]); cbv)
    | (refine call_pure hP code_wrap_Word (h3) ?_ ?_; (focus (cbv; (try simp); done)); rintro _ rfl; cbv)
    | (refine Chk.mk trivial ?_; cbv)
    | (refine bc_true (by first | assumption | (simp (disch := omega) only [hF, natc, w64_in, shs]; first | done | assumption | omega | (simp only [natc] at *; omega))) ?_; cbv)
    | (refine bc_false (by first | assumption | (simp (disch := omega) only [hF, natc, w64_in, shs]; first | done | assumption | omega | (simp only [natc] at *; omega))) ?_; cbv)
    | (refine bc_split (fun h => ?_) (fun h => ?_) <;> (try simp (disch := omega) only [hF, natc, w64_in, shs] at h) <;> cbv)
    | (refine IdxVC.mk (by simp (disch := omega) only [hF, natc, w64_in, shs]; first | done | omega | (simp only [natc] at *; omega)) (fun kx hk hk2 => ?_); simp (disch := omega) only [hF, natc, w64_in, shs] at hk; (try obtain rfl : kx = 0 := hk); cbv)
    | (refine Chk.mk (by simp (disch := omega) only [maxN, hF, natc, w64_in, shs]; first | done | assumption | omega | (simp only [natc] at *; omega)) ?_; cbv)
    | (intro (hmx : _ ≤ maxN); replace hmx : _ ≤ 17592186044416 := hmx; cbv)
    | (intro _; cbv)
  subst hQ; exact leaf_data rfl rfl ⟨rfl, rfl⟩

/-- A core is started: its epoch is one more. -/
def SocS.started (S : SocS) (j : Nat) : SocS := { S with ep := fun i => if i = j then (S.ep j + 1) % 65536 else S.ep i, hd := fun i => if i = j then false else S.hd i }

theorem SocS.ok.started {S : SocS} (hS : S.ok) (j : Nat) : Nxt S (S.started j) := by
  refine ⟨⟨hS.hc, hS.hn, hS.hk, hS.hB, hS.hBc, hS.hBn, hS.hX, hS.hXc, hS.how, fun i => ?_, fun i hi hh => ?_⟩, rfl, rfl, rfl⟩
  · show 0 ≤ (if i = j then (S.ep j + 1) % 65536 else S.ep i) ∧ (if i = j then (S.ep j + 1) % 65536 else S.ep i) ≤ 65535
    split
    · omega
    · exact hS.hep i
  · have hh : (if i = j then false else S.hd i) = true := hh
    by_cases hij : i = j
    · rw [if_pos hij] at hh; cases hh
    · rw [if_neg hij] at hh; exact hS.hhd i hi hh

theorem sStart_in (S : SocS) (hS : S.ok) (i : Nat) (hi : i < S.c) (hh : S.hd i = true) :
    CallOK (O := Ob) PR n_soc_Soc_Start [.ptr 0 0, .dv (.int .i64 i)] [.obj (socO S)] fun v m => v = .dv (.int .i64 0) ∧ m = [.obj (socO (S.started i))] :=
  sStart_w _ _ _ _ _ _ _ _ i 0 (gStart_in S.c S.ep S.hd hS.hc.2 i hi hh _ (ok_Add1 (S.ep i) (hS.hep i)))

theorem sStart_idle (S : SocS) (hS : S.ok) (i : Nat) (hi : i < S.c) (hh : S.hd i = false) :
    CallOK (O := Ob) PR n_soc_Soc_Start [.ptr 0 0, .dv (.int .i64 i)] [.obj (socO S)] fun v m => v = .dv (.int .i64 13) ∧ m = [.obj (socO S)] :=
  sStart_w _ _ _ _ _ _ _ _ i 13 (gStart_no S.c S.ep S.hd hS.hc.2 i hi hh)

theorem sStart_tot (S : SocS) (hS : S.ok) (j : Int) : Tot S n_soc_Soc_Start [.ptr 0 0, .dv (.int .i64 j)] One := by
  by_cases hj : 0 ≤ j ∧ j < S.c
  · obtain ⟨i, rfl⟩ : ∃ i : Nat, j = i := ⟨j.toNat, by omega⟩
    have hi : i < S.c := by omega
    cases hh : S.hd i with
    | true => exact (sStart_in S hS i hi hh).mono fun v m ⟨hv, hm⟩ => ⟨⟨_, hv⟩, _, hS.started i, hm⟩
    | false => exact (sStart_idle S hS i hi hh).mono fun v m ⟨hv, hm⟩ => ⟨⟨_, hv⟩, S, Nxt.refl hS, hm⟩
  · exact (sStart_w _ _ _ _ _ _ _ _ j 3 (gStart_out S.c S.ep S.hd hS.hc.2 j hj)).mono fun v m ⟨hv, hm⟩ => ⟨⟨_, hv⟩, S, Nxt.refl hS, hm⟩

theorem sUp_in (S : SocS) (hS : S.ok) (i : Nat) (hi : i < S.c) :
    CallOK (O := Ob) PR n_soc_Soc_Up [.ptr 0 0, .dv (.int .i64 i)] [.obj (socO S)] fun v m => v = .dv (.bool (!S.hd i)) ∧ m = [.obj (socO S)] :=
  sUp_w _ _ _ _ _ _ _ i _ (gUp_in S.c S.ep S.hd hS.hc.2 i hi)

theorem sEpoch_in (S : SocS) (hS : S.ok) (i : Nat) (hi : i < S.c) :
    CallOK (O := Ob) PR n_soc_Soc_Epoch [.ptr 0 0, .dv (.int .i64 i)] [.obj (socO S)] fun v m => v = .tup [.dv (.int .i64 (S.ep i)), .dv (.int .i64 0)] ∧ m = [.obj (socO S)] :=
  sEpoch_w _ _ _ _ _ _ _ i _ _ (gEpoch_in S.c S.ep S.hd hS.hc.2 i hi)

theorem sOwner_in (S : SocS) (hS : S.ok) (y : Nat) (hy : y < S.k) :
    CallOK (O := Ob) PR n_soc_Soc_Owner [.ptr 0 0, .dv (.int .i64 y)] [.obj (socO S)] fun v m => v = .tup [.dv (.int .i64 (S.ow y - 1)), .dv (.int .i64 0)] ∧ m = [.obj (socO S)] :=
  sOwner_w _ _ _ _ _ _ _ y _ _ (kOwner S.c S.k S.ow hS.hk.2 y hy (by have := hS.how y; have := hS.hc; omega))

/-- A new soc, or none. -/
theorem sNew_ok (c n k mo : Int) (hc : 1 ≤ c ∧ c ≤ 8) (hn : 1 ≤ n ∧ n ≤ 65536) (hk : 1 ≤ k ∧ k ≤ 16) (hm : 1 ≤ mo ∧ mo ≤ 16) :
    CallOK (O := Ob) PR n_soc_New [.agg [.dv (.int .i64 c), .dv (.int .i64 n), .dv (.int .i64 k)], .dv (.int .i64 mo)] []
      fun v m => v = .tup [.ptr 0 0, .dv (.int .i64 0)] ∧ ∃ S : SocS, S.ok ∧ (S.c : Int) = c ∧ (S.n : Int) = n ∧ (S.k : Int) = k ∧ S.ow = (fun _ => 0) ∧ S.hd = (fun _ => false) ∧ S.ep = (fun _ => 0) ∧ m = [.obj (socO S)] := by
  obtain ⟨c, rfl⟩ : ∃ i : Nat, c = i := ⟨c.toNat, by omega⟩
  obtain ⟨n, rfl⟩ : ∃ i : Nat, n = i := ⟨n.toNat, by omega⟩
  obtain ⟨k, rfl⟩ : ∃ i : Nat, k = i := ⟨k.toNat, by omega⟩
  have hc' : 1 ≤ c ∧ c ≤ 8 := by omega
  have hn' : 1 ≤ n ∧ n ≤ 65536 := by omega
  have hk' : 1 ≤ k ∧ k ≤ 16 := by omega
  refine (sNew_w c n k mo _ _ _ (isBox c) (busNew n c mo (by omega) (by omega) hm) (right_in c n k hc hn hk) ((boxNew c (by omega)).mono fun v m ⟨hv, hm⟩ => ⟨hv, hm.is⟩) (kNew c k (by omega) (by omega)) (gNew c (by omega))).mono
    fun v m ⟨hv, X, ⟨Z, h1, h2, e⟩, hmm⟩ => ⟨hv, ⟨c, n, k, BusS.new n c mo, Z, fun _ => 0, fun _ => 0, fun _ => false⟩, ⟨hc', hn', hk', BusS.new_ok n c mo hn' hc' hm, rfl, rfl, h1, h2, fun i => ?_, fun i => ?_, fun j _ hh => ?_⟩, rfl, rfl, rfl, rfl, rfl, rfl, by subst e; exact hmm⟩
  · show (0 : Int) ≤ 0 ∧ (0 : Int) ≤ (c : Int); omega
  · show (0 : Int) ≤ 0 ∧ (0 : Int) ≤ 65535; omega
  · cases hh

theorem sNew_no (c n k mo : Int) (h64 : (-9223372036854775808 ≤ c ∧ c ≤ 9223372036854775807) ∧ (-9223372036854775808 ≤ n ∧ n ≤ 9223372036854775807) ∧ (-9223372036854775808 ≤ k ∧ k ≤ 9223372036854775807))
    (h : ¬ ((1 ≤ c ∧ c ≤ 8) ∧ (1 ≤ n ∧ n ≤ 65536) ∧ (1 ≤ k ∧ k ≤ 16) ∧ 1 ≤ mo ∧ mo ≤ 16)) :
    CallOK (O := Ob) PR n_soc_New [.agg [.dv (.int .i64 c), .dv (.int .i64 n), .dv (.int .i64 k)], .dv (.int .i64 mo)] [] fun v m => v = .tup [.dv .nilp, .dv (.int .i64 2)] ∧ m = [] := by
  by_cases hb : (1 ≤ c ∧ c ≤ 8) ∧ (1 ≤ n ∧ n ≤ 65536) ∧ 1 ≤ mo ∧ mo ≤ 16
  · have hk : ¬ (1 ≤ k ∧ k ≤ 16) := by omega
    obtain ⟨hc, hn, hm⟩ := hb
    obtain ⟨c, rfl⟩ : ∃ i : Nat, c = i := ⟨c.toNat, by omega⟩
    obtain ⟨n, rfl⟩ : ∃ i : Nat, n = i := ⟨n.toNat, by omega⟩
    refine sNew_no2 c n k mo _ (busNew n c mo (by omega) (by omega) hm) ((ok_Right c n k).mono fun v m ⟨hv, hm⟩ => ⟨?_, hm⟩)
    rw [hv]
    congr 2
    refine decide_eq_false fun hh => hk ?_
    by_cases hlo : -9223372036854775807 ≤ k
    · rw [w64_in (n := k - 1) (by omega)] at hh; omega
    · have : k = -9223372036854775808 := by omega
      subst this
      have e : IntKind.i64.wrap (-9223372036854775808 - 1) = 9223372036854775807 := by decide
      rw [e] at hh; omega
  · exact sNew_no1 c n k mo (busNew_no c n mo hb)

end Go.Proofs.YtiaceoomiflgcaaGreat

end

section
namespace Go.Proofs.YtiaceoomiflgcaaGreat
open Go.V
set_option linter.unusedVariables false
set_option linter.unusedSimpArgs false
set_option maxRecDepth 100000
set_option maxHeartbeats 8000000

def Nx (S : SocS) (x : Ob) : Prop := ∃ S', Nxt S S' ∧ x = socO S'
def TotO (P : Ob → Prop) (x : Ob) (f : FuncId) (args : List SV) (R : SV → Prop) : Prop := CallOK (O := Ob) PR f args [.obj x] fun v m => R v ∧ ∃ y, P y ∧ m = [.obj y]
theorem Tot.o {S : SocS} {f : FuncId} {args : List SV} {R : SV → Prop} (h : Tot S f args R) : TotO (Nx S) (socO S) f args R :=
  h.mono fun v m ⟨hv, S', h1, h2⟩ => ⟨hv, _, ⟨S', h1, rfl⟩, h2⟩

theorem leaf_o {v : SV} {y : Ob} {rest : List (Chunk Ob)} {Q : SV → List (Chunk Ob) → Prop} (hu : VLe [0] v v) (hq : Q v [.obj y]) : ∃ r' m', Ent 1 ⟨[v], .obj y :: rest⟩ ⟨[r'], m'⟩ ∧ Q r' m' :=
  ⟨v, [.obj y], Ent.ren [0] rfl rfl ⟨rfl, trivial⟩ ⟨hu, trivial⟩, hq⟩

theorem ok_Do_w (x : Ob) (P : Ob → Prop) (k c a w : Int) (h0 : TotO P x n_soc_Soc_Read [.ptr 0 0, .dv (.int .i64 c), .dv (.int .i64 a)] Two) (h1 : TotO P x n_soc_Soc_Write [.ptr 0 0, .dv (.int .i64 c), .dv (.int .i64 a), .dv (.int .i64 w)] One)
    (h2 : TotO P x n_soc_Soc_Fence [.ptr 0 0, .dv (.int .i64 c)] Two) (h3 : TotO P x n_soc_Soc_Drain [.ptr 0 0, .dv (.int .i64 c)] fun v => ∃ b e, v = .tup [.dv (.bool b), .dv (.int .i64 e)])
    (h4 : TotO P x n_soc_Soc_Swap [.ptr 0 0, .dv (.int .i64 c), .dv (.int .i64 a), .dv (.int .i64 w)] Two) (h5 : TotO P x n_soc_Soc_Hold [.ptr 0 0, .dv (.int .i64 c)] One) (h6 : TotO P x n_soc_Soc_Start [.ptr 0 0, .dv (.int .i64 c)] One) :
    TotO P x n_law12_Do [.ptr 0 0, .agg [.dv (.int .i64 k), .dv (.int .i64 c), .dv (.int .i64 a), .dv (.int .i64 w)]] Two := by
  unfold TotO Two One at *
  refine fn_walkv mixed fn_law12_Do (Ent.refl _ _) fun bin cmp un conv bnot beq band sel isel ofN toN inb nz nneg lt le room' slb add sub sbin scmp slen sget ssub addk pc pb pi pf ps mkok min_ ig aeq P hP hA hF Q hQ => ?_
  cbv
  repeat' first
    | (refine call_at hP [0] code_soc_Soc_Read (h0) rfl ?_ ?_ ?_; (focus ((repeat' (first | exact trivial | exact rfl | (intro _ _ _ _; exact rfl) | refine And.intro ?_ ?_)); done)); (focus (cbv; (try simp); done)); rintro _ _ ⟨⟨n, e, rfl⟩, y, hy, rfl⟩ _; cbv)
    | (refine call_at hP [0] code_soc_Soc_Write (h1) rfl ?_ ?_ ?_; (focus ((repeat' (first | exact trivial | exact rfl | (intro _ _ _ _; exact rfl) | refine And.intro ?_ ?_)); done)); (focus (cbv; (try simp); done)); rintro _ _ ⟨⟨e, rfl⟩, y, hy, rfl⟩ _; cbv)
    | (refine call_at hP [0] code_soc_Soc_Fence (h2) rfl ?_ ?_ ?_; (focus ((repeat' (first | exact trivial | exact rfl | (intro _ _ _ _; exact rfl) | refine And.intro ?_ ?_)); done)); (focus (cbv; (try simp); done)); rintro _ _ ⟨⟨n, e, rfl⟩, y, hy, rfl⟩ _; cbv)
    | (refine call_at hP [0] code_soc_Soc_Drain (h3) rfl ?_ ?_ ?_; (focus ((repeat' (first | exact trivial | exact rfl | (intro _ _ _ _; exact rfl) | refine And.intro ?_ ?_)); done)); (focus (cbv; (try simp); done)); rintro _ _ ⟨⟨b, e, rfl⟩, y, hy, rfl⟩ _; cbv)
    | (refine call_at hP [0] code_soc_Soc_Swap (h4) rfl ?_ ?_ ?_; (focus ((repeat' (first | exact trivial | exact rfl | (intro _ _ _ _; exact rfl) | refine And.intro ?_ ?_)); done)); (focus (cbv; (try simp); done)); rintro _ _ ⟨⟨n, e, rfl⟩, y, hy, rfl⟩ _; cbv)
    | (refine call_at hP [0] code_soc_Soc_Hold (h5) rfl ?_ ?_ ?_; (focus ((repeat' (first | exact trivial | exact rfl | (intro _ _ _ _; exact rfl) | refine And.intro ?_ ?_)); done)); (focus (cbv; (try simp); done)); rintro _ _ ⟨⟨e, rfl⟩, y, hy, rfl⟩ _; cbv)
    | (refine call_at hP [0] code_soc_Soc_Start (h6) rfl ?_ ?_ ?_; (focus ((repeat' (first | exact trivial | exact rfl | (intro _ _ _ _; exact rfl) | refine And.intro ?_ ?_)); done)); (focus (cbv; (try simp); done)); rintro _ _ ⟨⟨e, rfl⟩, y, hy, rfl⟩ _; cbv)
    | (refine Chk.mk trivial ?_; cbv)
    | (refine bc_true (by first | assumption | (simp (disch := omega) only [hF, natc, w64_in, shs]; first | done | assumption | omega | (simp only [natc] at *; omega))) ?_; cbv)
    | (refine bc_false (by first | assumption | (simp (disch := omega) only [hF, natc, w64_in, shs]; first | done | assumption | omega | (simp only [natc] at *; omega))) ?_; cbv)
    | (refine bc_split (fun h => ?_) (fun h => ?_) <;> (try simp (disch := omega) only [hF, natc, w64_in, shs] at h) <;> cbv)
    | (refine IdxVC.mk (by simp (disch := omega) only [hF, natc, w64_in, shs]; first | done | omega | (simp only [natc] at *; omega)) (fun kx hk hk2 => ?_); simp (disch := omega) only [hF, natc, w64_in, shs] at hk; (try obtain rfl : kx = 0 := hk); cbv)
    | (refine Chk.mk (by simp (disch := omega) only [maxN, hF, natc, w64_in, shs]; first | done | assumption | omega | (simp only [natc] at *; omega)) ?_; cbv)
    | (intro (hmx : _ ≤ maxN); replace hmx : _ ≤ 17592186044416 := hmx; cbv)
    | (intro _; cbv)
  all_goals
    subst hQ
    exact leaf_o rfl ⟨⟨_, _, rfl⟩, y, hy, rfl⟩

theorem ok_Do (S : SocS) (hS : S.ok) (k c a w : Int) (ha : a ≤ 9223372036854775807) : Tot S n_law12_Do [.ptr 0 0, .agg [.dv (.int .i64 k), .dv (.int .i64 c), .dv (.int .i64 a), .dv (.int .i64 w)]] Two :=
  (ok_Do_w (socO S) (Nx S) k c a w (sRead_tot S hS c a ha).o (sWrite_tot S hS c a w ha).o (sFence_tot S hS c).o (sDrain_tot S hS c).o (sSwap_tot S hS c a w ha).o (sHold_tot S hS c).o (sStart_tot S hS c).o).mono
    fun v m ⟨hv, y, ⟨S', h1, e⟩, hm⟩ => ⟨hv, S', h1, by rw [hm, e]⟩

end Go.Proofs.YtiaceoomiflgcaaGreat

end

section
namespace Go.Proofs.YtiaceoomiflgcaaGreat
open Go.V
set_option linter.unusedVariables false
set_option linter.unusedSimpArgs false
set_option maxRecDepth 100000
set_option maxHeartbeats 8000000

theorem clone_i (n : Nat) (r : Nat → Int) (hn : n ≤ 65536) : CallOK (O := Ob) PR n_slices_Clone_Sint_int [.vec 0] [.vec n 1 fun i _ => .dv (.int .i64 (r i))]
    fun v m => v = .vec 1 ∧ m = [.vec n 1 fun i _ => .dv (.int .i64 (r i)), .vec n 1 fun i _ => .dv (.int .i64 (r i))] := by
  refine fn_walkv mixed fn_slices_Clone_Sint_int (Ent.refl _ _) fun bin cmp un conv bnot beq band sel isel ofN toN inb nz nneg lt le room' slb add sub sbin scmp slen sget ssub addk pc pb pi pf ps mkok min_ ig aeq P hP hA hF Q hQ => ?_
  have hrm : room' (add 0 n) 8 := by simp [hF, maxN]; omega
  cbv
  repeat' first
    | ((refine Chk.mk hrm ?_); cbv)
    | (refine Chk.mk trivial ?_; cbv)
    | (refine bc_true (by first | assumption | (simp (disch := omega) only [hF, natc, w64_in, shs]; first | done | assumption | omega | (simp only [natc] at *; omega))) ?_; cbv)
    | (refine bc_false (by first | assumption | (simp (disch := omega) only [hF, natc, w64_in, shs]; first | done | assumption | omega | (simp only [natc] at *; omega))) ?_; cbv)
    | (refine bc_split (fun h => ?_) (fun h => ?_) <;> (try simp (disch := omega) only [hF, natc, w64_in, shs] at h) <;> cbv)
    | (refine IdxVC.mk (by simp (disch := omega) only [hF, natc, w64_in, shs]; first | done | omega | (simp only [natc] at *; omega)) (fun kx hk hk2 => ?_); simp (disch := omega) only [hF, natc, w64_in, shs] at hk; (try obtain rfl : kx = 0 := hk); cbv)
    | (refine Chk.mk (by simp (disch := omega) only [maxN, hF, natc, w64_in, shs]; first | done | assumption | omega | (simp only [natc] at *; omega)) ?_; cbv)
    | (intro (hmx : _ ≤ maxN); replace hmx : _ ≤ 17592186044416 := hmx; cbv)
    | (intro _; cbv)
  · have hn0 : n = 0 := by
      rcases Nat.eq_zero_or_pos n with h0 | h0
      · exact h0
      · simp_all
    subst hQ
    refine ⟨.vec 1, [.vec n 1 fun i _ => .dv (.int .i64 (r i)), .vec n 1 fun i _ => .dv (.int .i64 (r i))], ?_, rfl, rfl⟩
    exact (Ent.nilv 0 1 (fun i _ => .dv (.int .i64 (r i))) rfl).trans (Ent.ren [0, 1] rfl rfl ⟨⟨rfl, rfl, fun _ _ _ _ => rfl⟩, ⟨hn0.symm, rfl, fun _ _ _ _ => rfl⟩, trivial⟩ ⟨rfl, trivial⟩)
  · subst hQ
    refine ⟨.vec 1, [.vec n 1 fun i _ => .dv (.int .i64 (r i)), .vec n 1 fun i _ => .dv (.int .i64 (r i))], ?_, rfl, rfl⟩
    refine Ent.ren [0, 2] rfl rfl ⟨⟨rfl, rfl, fun _ _ _ _ => rfl⟩, ⟨by simp only [hF]; omega, rfl, fun i f hi hf => ?_⟩, trivial⟩ ⟨rfl, trivial⟩
    obtain rfl : f = 0 := by omega
    unfold appAt
    rw [if_neg (Nat.not_lt_zero _)]
    simp only [hF, Nat.sub_zero]
    rfl

theorem clone_c (re im : Nat → Nat) : CallOK (O := Ob) PR n_slices_Clone_Scomplex128_complex128 [.vec 0] [.vec 0 1 fun i _ => .dv (.cpx .f64 (re i) (im i))]
    fun v m => v = .vec 1 ∧ m = [.vec 0 1 fun i _ => .dv (.cpx .f64 (re i) (im i)), .vec 0 1 fun i _ => .dv (.cpx .f64 (re i) (im i))] := by
  refine fn_walkv mixed fn_slices_Clone_Scomplex128_complex128 (Ent.refl _ _) fun bin cmp un conv bnot beq band sel isel ofN toN inb nz nneg lt le room' slb add sub sbin scmp slen sget ssub addk pc pb pi pf ps mkok min_ ig aeq P hP hA hF Q hQ => ?_
  have hrm : room' (add 0 0) 16 := by simp [hF, maxN]
  cbv
  repeat' first
    | ((refine Chk.mk hrm ?_); cbv)
    | (refine Chk.mk trivial ?_; cbv)
    | (refine bc_true (by first | assumption | (simp (disch := omega) only [hF, natc, w64_in, shs]; first | done | assumption | omega | (simp only [natc] at *; omega))) ?_; cbv)
    | (refine bc_false (by first | assumption | (simp (disch := omega) only [hF, natc, w64_in, shs]; first | done | assumption | omega | (simp only [natc] at *; omega))) ?_; cbv)
    | (refine bc_split (fun h => ?_) (fun h => ?_) <;> (try simp (disch := omega) only [hF, natc, w64_in, shs] at h) <;> cbv)
    | (refine IdxVC.mk (by simp (disch := omega) only [hF, natc, w64_in, shs]; first | done | omega | (simp only [natc] at *; omega)) (fun kx hk hk2 => ?_); simp (disch := omega) only [hF, natc, w64_in, shs] at hk; (try obtain rfl : kx = 0 := hk); cbv)
    | (refine Chk.mk (by simp (disch := omega) only [maxN, hF, natc, w64_in, shs]; first | done | assumption | omega | (simp only [natc] at *; omega)) ?_; cbv)
    | (intro (hmx : _ ≤ maxN); replace hmx : _ ≤ 17592186044416 := hmx; cbv)
    | (intro _; cbv)
  · have hn0 : 0 = 0 := rfl
    subst hQ
    refine ⟨.vec 1, [.vec 0 1 fun i _ => .dv (.cpx .f64 (re i) (im i)), .vec 0 1 fun i _ => .dv (.cpx .f64 (re i) (im i))], ?_, rfl, rfl⟩
    exact (Ent.nilv 0 1 (fun i _ => .dv (.cpx .f64 (re i) (im i))) rfl).trans (Ent.ren [0, 1] rfl rfl ⟨⟨rfl, rfl, fun _ _ _ _ => rfl⟩, ⟨hn0.symm, rfl, fun _ _ _ _ => rfl⟩, trivial⟩ ⟨rfl, trivial⟩)
  · subst hQ
    refine ⟨.vec 1, [.vec 0 1 fun i _ => .dv (.cpx .f64 (re i) (im i)), .vec 0 1 fun i _ => .dv (.cpx .f64 (re i) (im i))], ?_, rfl, rfl⟩
    refine Ent.ren [0, 2] rfl rfl ⟨⟨rfl, rfl, fun _ _ _ _ => rfl⟩, ⟨by simp only [hF], rfl, fun i f hi hf => ?_⟩, trivial⟩ ⟨rfl, trivial⟩
    obtain rfl : f = 0 := by omega
    unfold appAt
    rw [if_neg (Nat.not_lt_zero _)]
    simp only [hF, Nat.sub_zero]
    rfl

theorem bAll (mo : Int) (re im : Nat → Nat) : CallOK (O := Ob) PR n_sbuf_Buffer_All [.ptr 0 0] [.obj (bOb mo 0 re im)]
    fun v m => v = .vec 1 ∧ m = [.obj (bOb mo 0 re im), .vec 0 1 fun i _ => .dv (.cpx .f64 (re i) (im i))] := by
  have hc := clone_c re im
  unfold bOb bmem
  refine fn_walkv mixed fn_sbuf_Buffer_All Ent.opn1 fun bin cmp un conv bnot beq band sel isel ofN toN inb nz nneg lt le room' slb add sub sbin scmp slen sget ssub addk pc pb pi pf ps mkok min_ ig aeq P hP hA hF Q hQ => ?_
  cbv
  repeat' first
    | (refine call_at hP [1] code_slices_Clone_Scomplex128_complex128 (hc) rfl ?_ ?_ ?_; (focus ((repeat' (first | exact trivial | exact rfl | (intro _ _ _ _; exact rfl) | refine And.intro ?_ ?_)); done)); (focus (cbv; (try simp); done)); rintro _ _ ⟨rfl, rfl⟩ _; cbv)
    | (refine Chk.mk trivial ?_; cbv)
    | (refine bc_true (by first | assumption | (simp (disch := omega) only [hF, natc, w64_in, shs]; first | done | assumption | omega | (simp only [natc] at *; omega))) ?_; cbv)
    | (refine bc_false (by first | assumption | (simp (disch := omega) only [hF, natc, w64_in, shs]; first | done | assumption | omega | (simp only [natc] at *; omega))) ?_; cbv)
    | (refine bc_split (fun h => ?_) (fun h => ?_) <;> (try simp (disch := omega) only [hF, natc, w64_in, shs] at h) <;> cbv)
    | (refine IdxVC.mk (by simp (disch := omega) only [hF, natc, w64_in, shs]; first | done | omega | (simp only [natc] at *; omega)) (fun kx hk hk2 => ?_); simp (disch := omega) only [hF, natc, w64_in, shs] at hk; (try obtain rfl : kx = 0 := hk); cbv)
    | (refine Chk.mk (by simp (disch := omega) only [maxN, hF, natc, w64_in, shs]; first | done | assumption | omega | (simp only [natc] at *; omega)) ?_; cbv)
    | (intro (hmx : _ ≤ maxN); replace hmx : _ ≤ 17592186044416 := hmx; cbv)
    | (intro _; cbv)
  subst hQ
  refine ⟨.vec 1, [.obj (.mk (bmem mo 0 re im)), .vec 0 1 fun i _ => .dv (.cpx .f64 (re i) (im i))], ?_, rfl, rfl⟩
  refine (Ent.cls 0 [1] (bmem mo 0 re im) rfl rfl ?_).trans (Ent.ren [0, 2] rfl rfl ?_ ⟨rfl, trivial⟩)
  · exact ⟨⟨rfl, rfl, trivial⟩, ⟨rfl, rfl, fun _ _ _ _ => rfl⟩, trivial⟩
  · exact ⟨rfl, ⟨rfl, rfl, fun _ _ _ _ => rfl⟩, trivial⟩

theorem ok_rRam (n : Nat) (r : Nat → Int) (hn : n ≤ 65536) : CallOK (O := Ob) PR n_sram_Ram_Clone [.ptr 0 0] [.obj (rOb n r)]
    fun v m => v = .ptr 1 0 ∧ m = [.obj (rOb n r), .obj (rOb n r)] := by
  have hc := clone_i n r hn
  unfold rOb rmem
  refine fn_walkv mixed fn_sram_Ram_Clone Ent.opn1 fun bin cmp un conv bnot beq band sel isel ofN toN inb nz nneg lt le room' slb add sub sbin scmp slen sget ssub addk pc pb pi pf ps mkok min_ ig aeq P hP hA hF Q hQ => ?_
  cbv
  repeat' first
    | (refine call_at hP [1] code_slices_Clone_Sint_int (hc) rfl ?_ ?_ ?_; (focus ((repeat' (first | exact trivial | exact rfl | (intro _ _ _ _; exact rfl) | refine And.intro ?_ ?_)); done)); (focus (cbv; (try simp); done)); rintro _ _ ⟨rfl, rfl⟩ _; cbv)
    | (refine Chk.mk trivial ?_; cbv)
    | (refine bc_true (by first | assumption | (simp (disch := omega) only [hF, natc, w64_in, shs]; first | done | assumption | omega | (simp only [natc] at *; omega))) ?_; cbv)
    | (refine bc_false (by first | assumption | (simp (disch := omega) only [hF, natc, w64_in, shs]; first | done | assumption | omega | (simp only [natc] at *; omega))) ?_; cbv)
    | (refine bc_split (fun h => ?_) (fun h => ?_) <;> (try simp (disch := omega) only [hF, natc, w64_in, shs] at h) <;> cbv)
    | (refine IdxVC.mk (by simp (disch := omega) only [hF, natc, w64_in, shs]; first | done | omega | (simp only [natc] at *; omega)) (fun kx hk hk2 => ?_); simp (disch := omega) only [hF, natc, w64_in, shs] at hk; (try obtain rfl : kx = 0 := hk); cbv)
    | (refine Chk.mk (by simp (disch := omega) only [maxN, hF, natc, w64_in, shs]; first | done | assumption | omega | (simp only [natc] at *; omega)) ?_; cbv)
    | (intro (hmx : _ ≤ maxN); replace hmx : _ ≤ 17592186044416 := hmx; cbv)
    | (intro _; cbv)
  subst hQ
  refine ⟨.ptr 1 0, [.obj (.mk (rmem n r)), .obj (.mk (rmem n r))], ?_, rfl, rfl⟩
  refine (Ent.cls 0 [1] (rmem n r) rfl rfl ?_).trans ((Ent.cls 3 [2] (rmem n r) rfl rfl ?_).trans (Ent.ren [0, 3] rfl rfl ?_ ⟨rfl, trivial⟩))
  · exact ⟨⟨rfl, trivial⟩, ⟨rfl, rfl, fun _ _ _ _ => rfl⟩, trivial⟩
  · exact ⟨⟨rfl, trivial⟩, ⟨rfl, rfl, fun _ _ _ _ => rfl⟩, trivial⟩
  · exact ⟨rfl, rfl, trivial⟩

theorem ok_rSize (n : Nat) (r : Nat → Int) (hn : n ≤ 65536) : CallOK (O := Ob) PR n_sram_Ram_Size [.ptr 0 0] [.obj (rOb n r)]
    fun v m => v = .dv (.int .i64 n) ∧ m = [.obj (rOb n r)] := by
  unfold rOb rmem
  refine fn_walkv mixed fn_sram_Ram_Size Ent.opn1 fun bin cmp un conv bnot beq band sel isel ofN toN inb nz nneg lt le room' slb add sub sbin scmp slen sget ssub addk pc pb pi pf ps mkok min_ ig aeq P hP hA hF Q hQ => ?_
  cbv
  repeat' first
    | (refine Chk.mk trivial ?_; cbv)
    | (refine bc_true (by first | assumption | (simp (disch := omega) only [hF, natc, w64_in, shs]; first | done | assumption | omega | (simp only [natc] at *; omega))) ?_; cbv)
    | (refine bc_false (by first | assumption | (simp (disch := omega) only [hF, natc, w64_in, shs]; first | done | assumption | omega | (simp only [natc] at *; omega))) ?_; cbv)
    | (refine bc_split (fun h => ?_) (fun h => ?_) <;> (try simp (disch := omega) only [hF, natc, w64_in, shs] at h) <;> cbv)
    | (refine IdxVC.mk (by simp (disch := omega) only [hF, natc, w64_in, shs]; first | done | omega | (simp only [natc] at *; omega)) (fun kx hk hk2 => ?_); simp (disch := omega) only [hF, natc, w64_in, shs] at hk; (try obtain rfl : kx = 0 := hk); cbv)
    | (refine Chk.mk (by simp (disch := omega) only [maxN, hF, natc, w64_in, shs]; first | done | assumption | omega | (simp only [natc] at *; omega)) ?_; cbv)
    | (intro (hmx : _ ≤ maxN); replace hmx : _ ≤ 17592186044416 := hmx; cbv)
    | (intro _; cbv)
  have e : ofN n = (n : Int) := by simp only [hF]
  rw [e]
  subst hQ
  exact leaf_obj (lmem := rmem n r) [1] rfl rfl ⟨⟨rfl, trivial⟩, ⟨rfl, rfl, fun _ _ _ _ => rfl⟩, trivial⟩ rfl rfl ⟨rfl, rfl⟩

theorem ok_rSpan (n : Nat) (r : Nat → Int) (hn : n ≤ 65536) : CallOK (O := Ob) PR n_sram_Ram_Span [.ptr 0 0, .dv (.int .i64 0), .dv (.int .i64 n)] [.obj (rOb n r)]
    fun v m => v = .tup [.vec 1, .dv (.int .i64 0)] ∧ m = [.obj (rOb n r), .vec n 1 fun i _ => .dv (.int .i64 (r i))] := by
  have hw0 : CallOK (O := Ob) PR n_sram_Ram_wrong [.ptr 0 0, .dv (.int .i64 0), .dv (.int .i64 n)] [.obj (rOb n r)] fun v m => v = .dv (.int .i64 0) ∧ m = [.obj (rOb n r)] := (ok_rWrong n r 0 n (by omega) hn).mono fun v m ⟨⟨e, h1, _, he⟩, hm⟩ => ⟨by rw [he, h1 (by omega)], hm⟩
  unfold rOb rmem
  refine fn_walkv mixed fn_sram_Ram_Span Ent.opn1 fun bin cmp un conv bnot beq band sel isel ofN toN inb nz nneg lt le room' slb add sub sbin scmp slen sget ssub addk pc pb pi pf ps mkok min_ ig aeq P hP hA hF Q hQ => ?_
  have hmk : mkok (Int.ofNat n) (Int.ofNat n) 8 := by
    have e : mkok = std.mkok := congrArg Ar.mkok hA
    rw [e]
    show _ ∧ _ ∧ _ ≤ ((17592186044416 : Nat) : Int) ∧ _
    refine ⟨rfl, ?_, ?_, ?_⟩ <;> (try simp only [Int.ofNat_eq_natCast]) <;> omega
  cbv
  repeat' first
    | ((refine call_inl hP mixed hA code_sram_Ram_wrong fn_sram_Ram_wrong ?_); cbv)
    | ((refine Chk.mk hmk ?_); cbv)
    | (refine Chk.mk trivial ?_; cbv)
    | (refine bc_true (by first | assumption | (simp (disch := omega) only [hF, natc, w64_in, shs]; first | done | assumption | omega | (simp only [natc] at *; omega))) ?_; cbv)
    | (refine bc_false (by first | assumption | (simp (disch := omega) only [hF, natc, w64_in, shs]; first | done | assumption | omega | (simp only [natc] at *; omega))) ?_; cbv)
    | (refine bc_split (fun h => ?_) (fun h => ?_) <;> (try simp (disch := omega) only [hF, natc, w64_in, shs] at h) <;> cbv)
    | (refine IdxVC.mk (by simp (disch := omega) only [hF, natc, w64_in, shs]; first | done | omega | (simp only [natc] at *; omega)) (fun kx hk hk2 => ?_); simp (disch := omega) only [hF, natc, w64_in, shs] at hk; (try obtain rfl : kx = 0 := hk); cbv)
    | (refine Chk.mk (by simp (disch := omega) only [maxN, hF, natc, w64_in, shs]; first | done | assumption | omega | (simp only [natc] at *; omega)) ?_; cbv)
    | (intro (hmx : _ ≤ maxN); replace hmx : _ ≤ 17592186044416 := hmx; cbv)
    | (intro _; cbv)
  subst hQ
  refine ⟨.tup [.vec 1, .dv (.int .i64 0)], [.obj (.mk (rmem n r)), .vec n 1 fun i _ => .dv (.int .i64 (r i))], ?_, rfl, rfl⟩
  refine (Ent.cls 0 [1] (rmem n r) rfl rfl ?_).trans (Ent.ren [0, 2] rfl rfl ?_ ⟨rfl, trivial⟩)
  · exact ⟨⟨rfl, trivial⟩, ⟨rfl, rfl, fun _ _ _ _ => rfl⟩, trivial⟩
  · refine ⟨rfl, ⟨by simp only [hF, Int.ofNat_eq_natCast, Int.toNat_natCast], rfl, fun i f hi hf => ?_⟩, trivial⟩
    obtain rfl : f = 0 := by omega
    simp only [hF, Int.ofNat_eq_natCast, Int.toNat_natCast] at hi
    unfold cpyAt shiftAt
    simp only [hF, Int.ofNat_eq_natCast, Int.toNat_natCast]
    rw [if_pos ⟨Nat.zero_le _, by rw [Int.toNat_zero]; omega⟩, show Int.toNat 0 + (i - 0) = i by rw [Int.toNat_zero]; omega]
    rfl


/-- A memory's words. -/
theorem ok_Words (n : Nat) (r : Nat → Int) (hn : n ≤ 65536) : CallOK (O := Ob) PR n_law03_Words [.ptr 0 0] [.obj (rOb n r)]
    fun v m => v = .vec 1 ∧ m = [.obj (rOb n r), .vec n 1 fun i _ => .dv (.int .i64 (r i))] := by
  have h1 := ok_rSize n r hn
  have h2 := ok_rSpan n r hn
  generalize rOb n r = O1 at *
  refine fn_walkv mixed fn_law03_Words (Ent.refl _ _) fun bin cmp un conv bnot beq band sel isel ofN toN inb nz nneg lt le room' slb add sub sbin scmp slen sget ssub addk pc pb pi pf ps mkok min_ ig aeq P hP hA hF Q hQ => ?_
  cbv
  repeat' first
    | (refine call_at hP [0] code_sram_Ram_Size (h1) rfl ?_ ?_ ?_; (focus ((repeat' (first | exact trivial | exact rfl | (intro _ _ _ _; exact rfl) | refine And.intro ?_ ?_)); done)); (focus (cbv; (try simp); done)); rintro _ _ ⟨rfl, rfl⟩ _; cbv)
    | (refine call_at hP [0] code_sram_Ram_Span (h2) rfl ?_ ?_ ?_; (focus ((repeat' (first | exact trivial | exact rfl | (intro _ _ _ _; exact rfl) | refine And.intro ?_ ?_)); done)); (focus (cbv; (try simp); done)); rintro _ _ ⟨rfl, rfl⟩ _; cbv)
    | (refine Chk.mk trivial ?_; cbv)
    | (refine bc_true (by first | assumption | (simp (disch := omega) only [hF, natc, w64_in, shs]; first | done | assumption | omega | (simp only [natc] at *; omega))) ?_; cbv)
    | (refine bc_false (by first | assumption | (simp (disch := omega) only [hF, natc, w64_in, shs]; first | done | assumption | omega | (simp only [natc] at *; omega))) ?_; cbv)
    | (refine bc_split (fun h => ?_) (fun h => ?_) <;> (try simp (disch := omega) only [hF, natc, w64_in, shs] at h) <;> cbv)
    | (refine IdxVC.mk (by simp (disch := omega) only [hF, natc, w64_in, shs]; first | done | omega | (simp only [natc] at *; omega)) (fun kx hk hk2 => ?_); simp (disch := omega) only [hF, natc, w64_in, shs] at hk; (try obtain rfl : kx = 0 := hk); cbv)
    | (refine Chk.mk (by simp (disch := omega) only [maxN, hF, natc, w64_in, shs]; first | done | assumption | omega | (simp only [natc] at *; omega)) ?_; cbv)
    | (intro (hmx : _ ≤ maxN); replace hmx : _ ≤ 17592186044416 := hmx; cbv)
    | (intro _; cbv)
  subst hQ
  exact ⟨_, [.obj O1, .vec n 1 fun i _ => .dv (.int .i64 (r i))], Ent.refl _ _, rfl, rfl⟩

/-- What waits: nothing. -/
theorem busWaits_w (O1 : Ob) (bo : Nat → Ob) (cores : Nat) (bs : Nat → Nat) (g : Nat → DV) (j : Nat) (hj : j < cores) (h8 : cores ≤ 8)
    (hd : CallOK (O := Ob) PR n_sbuf_Buffer_All [.ptr 0 0] [.obj (.at_ (bs j) (bo j))] fun v m => v = .vec 1 ∧ m = [.obj (.at_ (bs j) (bo j)), .vec 0 1 fun i _ => .dv (g i)]) :
    CallOK (O := Ob) PR n_bus_Bus_Waits [.ptr 0 0, .dv (.int .i64 j)] [.obj (.mk (busR O1 cores bs bo))] fun v m => v = .vec 1 ∧ m = [.obj (busX O1 cores bo), .vec 0 1 fun i _ => .dv (g i)] := by
  unfold busR
  refine fn_walkv mixed fn_bus_Bus_Waits Ent.opn1 fun bin cmp un conv bnot beq band sel isel ofN toN inb nz nneg lt le room' slb add sub sbin scmp slen sget ssub addk pc pb pi pf ps mkok min_ ig aeq P hP hA hF Q hQ => ?_
  cbv
  repeat' first
    | ((refine call_inl hP mixed hA code_bus_Bus_ask fn_bus_Bus_ask ?_); cbv)
    | ((refine call_inl hP mixed hA code_bus_Bus_Waits_c1 fn_bus_Bus_Waits_c1 ?_); cbv)
    | (refine Chk.mk trivial ?_; cbv)
    | (refine bc_true (by first | assumption | (simp (disch := omega) only [hF, natc, w64_in, shs]; first | done | assumption | omega | (simp only [natc] at *; omega))) ?_; cbv)
    | (refine bc_false (by first | assumption | (simp (disch := omega) only [hF, natc, w64_in, shs]; first | done | assumption | omega | (simp only [natc] at *; omega))) ?_; cbv)
    | (refine bc_split (fun h => ?_) (fun h => ?_) <;> (try simp (disch := omega) only [hF, natc, w64_in, shs] at h) <;> cbv)
    | (refine IdxVC.mk (by simp (disch := omega) only [hF, natc, w64_in, shs]; first | done | omega | (simp only [natc] at *; omega)) (fun kx hk hk2 => ?_); simp (disch := omega) only [hF, natc, w64_in, shs] at hk; (try obtain rfl : kx = 0 := hk); cbv)
    | (refine Chk.mk (by simp (disch := omega) only [maxN, hF, natc, w64_in, shs]; first | done | assumption | omega | (simp only [natc] at *; omega)) ?_; cbv)
    | (intro (hmx : _ ≤ maxN); replace hmx : _ ≤ 17592186044416 := hmx; cbv)
    | (intro _; cbv)
  subst hk
  refine call_fam 3 kx [0] rfl hk2 rfl ⟨rfl, trivial⟩ ?_
  cbv
  repeat' first
    | (refine call_at hP [5] code_sbuf_Buffer_All (hd) rfl ?_ ?_ ?_; (focus ((repeat' (first | exact trivial | exact rfl | (intro _ _ _ _; exact rfl) | refine And.intro ?_ ?_)); done)); (focus (cbv; (try simp); done)); rintro _ _ ⟨rfl, rfl⟩ _; cbv)
    | (refine Chk.mk trivial ?_; cbv)
    | (refine bc_true (by first | assumption | (simp (disch := omega) only [hF, natc, w64_in, shs]; first | done | assumption | omega | (simp only [natc] at *; omega))) ?_; cbv)
    | (refine bc_false (by first | assumption | (simp (disch := omega) only [hF, natc, w64_in, shs]; first | done | assumption | omega | (simp only [natc] at *; omega))) ?_; cbv)
    | (refine bc_split (fun h => ?_) (fun h => ?_) <;> (try simp (disch := omega) only [hF, natc, w64_in, shs] at h) <;> cbv)
    | (refine IdxVC.mk (by simp (disch := omega) only [hF, natc, w64_in, shs]; first | done | omega | (simp only [natc] at *; omega)) (fun kx hk hk2 => ?_); simp (disch := omega) only [hF, natc, w64_in, shs] at hk; (try obtain rfl : kx = 0 := hk); cbv)
    | (refine Chk.mk (by simp (disch := omega) only [maxN, hF, natc, w64_in, shs]; first | done | assumption | omega | (simp only [natc] at *; omega)) ?_; cbv)
    | (intro (hmx : _ ≤ maxN); replace hmx : _ ≤ 17592186044416 := hmx; cbv)
    | (intro _; cbv)
  subst hQ
  refine ⟨.vec 1, [.obj (busX O1 cores bo), .vec 0 1 fun i _ => .dv (g i)], ?_, rfl, rfl⟩
  refine (Ent.famC 3 5 kx (sk' := fun _ => false) (o' := bo) (x := bo kx) rfl rfl (by decide) hk2 (by simp) (fun i _ => ?_) (fun i _ => ?_)).trans ?_
  · by_cases h : i = kx <;> simp [h]
  · by_cases h : i = kx <;> simp [h]
  refine (Ent.cls 0 [1, 2, 3] (busR O1 cores bs bo) rfl rfl ?_).trans ((Ent.exI (o := fun bs => .mk (busR O1 cores bs bo)) 0 bs rfl).trans (Ent.ren [0, 6] rfl rfl ?_ ⟨rfl, trivial⟩))
  · exact ⟨⟨rfl, rfl, trivial⟩, rfl, ⟨rfl, rfl, fun _ _ _ _ => rfl⟩, rfl, trivial⟩
  · exact ⟨rfl, ⟨rfl, rfl, fun _ _ _ _ => rfl⟩, trivial⟩

theorem busRam_w (O1 : Ob) (bo : Nat → Ob) (cores : Nat) (bs : Nat → Nat) (hd : CallOK (O := Ob) PR n_sram_Ram_Clone [.ptr 0 0] [.obj O1] fun v m => v = .ptr 1 0 ∧ m = [.obj O1, .obj O1]) :
    CallOK (O := Ob) PR n_bus_Bus_Ram [.ptr 0 0] [.obj (.mk (busR O1 cores bs bo))] fun v m => v = .ptr 1 0 ∧ m = [.obj (busX O1 cores bo), .obj O1] := by
  unfold busR
  refine fn_walkv mixed fn_bus_Bus_Ram Ent.opn1 fun bin cmp un conv bnot beq band sel isel ofN toN inb nz nneg lt le room' slb add sub sbin scmp slen sget ssub addk pc pb pi pf ps mkok min_ ig aeq P hP hA hF Q hQ => ?_
  cbv
  repeat' first
    | (refine call_at hP [1] code_sram_Ram_Clone (hd) rfl ?_ ?_ ?_; (focus ((repeat' (first | exact trivial | exact rfl | (intro _ _ _ _; exact rfl) | refine And.intro ?_ ?_)); done)); (focus (cbv; (try simp); done)); rintro _ _ ⟨rfl, rfl⟩ _; cbv)
    | (refine Chk.mk trivial ?_; cbv)
    | (refine bc_true (by first | assumption | (simp (disch := omega) only [hF, natc, w64_in, shs]; first | done | assumption | omega | (simp only [natc] at *; omega))) ?_; cbv)
    | (refine bc_false (by first | assumption | (simp (disch := omega) only [hF, natc, w64_in, shs]; first | done | assumption | omega | (simp only [natc] at *; omega))) ?_; cbv)
    | (refine bc_split (fun h => ?_) (fun h => ?_) <;> (try simp (disch := omega) only [hF, natc, w64_in, shs] at h) <;> cbv)
    | (refine IdxVC.mk (by simp (disch := omega) only [hF, natc, w64_in, shs]; first | done | omega | (simp only [natc] at *; omega)) (fun kx hk hk2 => ?_); simp (disch := omega) only [hF, natc, w64_in, shs] at hk; (try obtain rfl : kx = 0 := hk); cbv)
    | (refine Chk.mk (by simp (disch := omega) only [maxN, hF, natc, w64_in, shs]; first | done | assumption | omega | (simp only [natc] at *; omega)) ?_; cbv)
    | (intro (hmx : _ ≤ maxN); replace hmx : _ ≤ 17592186044416 := hmx; cbv)
    | (intro _; cbv)
  subst hQ
  refine ⟨.ptr 1 0, [.obj (busX O1 cores bo), .obj O1], ?_, rfl, rfl⟩
  refine (Ent.cls 0 [1, 2, 3] (busR O1 cores bs bo) rfl rfl ?_).trans ((Ent.exI (o := fun bs => .mk (busR O1 cores bs bo)) 0 bs rfl).trans (Ent.ren [0, 4] rfl rfl ?_ ⟨rfl, trivial⟩))
  · exact ⟨⟨rfl, rfl, trivial⟩, rfl, ⟨rfl, rfl, fun _ _ _ _ => rfl⟩, rfl, trivial⟩
  · exact ⟨rfl, rfl, trivial⟩

end Go.Proofs.YtiaceoomiflgcaaGreat

end

section
namespace Go.Proofs.YtiaceoomiflgcaaGreat
open Go.V
set_option linter.unusedVariables false
set_option linter.unusedSimpArgs false
set_option maxRecDepth 100000
set_option maxHeartbeats 8000000

theorem busWaits (S : BusS) (hS : S.ok) (j : Nat) (hj : j < S.cores) (h0 : S.bufs j = []) : CallOK (O := Ob) PR n_bus_Bus_Waits [.ptr 0 0, .dv (.int .i64 j)] [.obj (busO S)]
    fun v m => v = .vec 1 ∧ m = [.obj (busO S), .vec 0 1 fun i _ => .dv (.cpx .f64 (lre [] i) (lim [] i))] := by
  refine CallOK.exE 0 rfl fun bs => busWaits_w (rOb S.n S.r) (fun j => lO S.mo (S.bufs j)) S.cores bs _ j hj hS.2.1 ?_
  show CallOK (O := Ob) PR n_sbuf_Buffer_All [.ptr 0 0] [.obj (.at_ (bs j) (lO S.mo (S.bufs j)))] _
  rw [h0]
  refine ((bAll S.mo (lre []) (lim [])).at_ (bs j) fun r m hq => ⟨_, _, hq.2⟩).mono ?_
  rintro r m ⟨y, l, rfl, hr, hm⟩
  cases hm
  exact ⟨hr, rfl⟩

theorem busRam (S : BusS) (hS : S.ok) : CallOK (O := Ob) PR n_bus_Bus_Ram [.ptr 0 0] [.obj (busO S)] fun v m => v = .ptr 1 0 ∧ m = [.obj (busO S), .obj (rOb S.n S.r)] :=
  CallOK.exE 0 rfl fun bs => busRam_w (rOb S.n S.r) (fun j => lO S.mo (S.bufs j)) S.cores bs (ok_rRam S.n S.r hS.1)

theorem sWaits_w (c n k : Int) (B X K G : Ob) (j : Int) (g : Nat → DV) (hg : CallOK (O := Ob) PR n_bus_Bus_Waits [.ptr 0 0, .dv (.int .i64 j)] [.obj B] fun v m => v = .vec 1 ∧ m = [.obj B, .vec 0 1 fun i _ => .dv (g i)]) :
    CallOK (O := Ob) PR n_soc_Soc_Waits [.ptr 0 0, .dv (.int .i64 j)] [.obj (sO c n k B X K G)] fun v m => v = .vec 1 ∧ m = [.obj (sO c n k B X K G), .vec 0 1 fun i _ => .dv (g i)] := by
  refine fn_walkv mixed fn_soc_Soc_Waits Ent.opn1 fun bin cmp un conv bnot beq band sel isel ofN toN inb nz nneg lt le room' slb add sub sbin scmp slen sget ssub addk pc pb pi pf ps mkok min_ ig aeq P hP hA hF Q hQ => ?_
  cbv
  repeat' first
    | (refine call_at hP [1] code_bus_Bus_Waits (hg) rfl ?_ ?_ ?_; (focus ((repeat' (first | exact trivial | exact rfl | (intro _ _ _ _; exact rfl) | refine And.intro ?_ ?_)); done)); (focus (cbv; (try simp); done)); rintro _ _ ⟨rfl, rfl⟩ _; cbv)
    | (refine Chk.mk trivial ?_; cbv)
    | (refine bc_true (by first | assumption | (simp (disch := omega) only [hF, natc, w64_in, shs]; first | done | assumption | omega | (simp only [natc] at *; omega))) ?_; cbv)
    | (refine bc_false (by first | assumption | (simp (disch := omega) only [hF, natc, w64_in, shs]; first | done | assumption | omega | (simp only [natc] at *; omega))) ?_; cbv)
    | (refine bc_split (fun h => ?_) (fun h => ?_) <;> (try simp (disch := omega) only [hF, natc, w64_in, shs] at h) <;> cbv)
    | (refine IdxVC.mk (by simp (disch := omega) only [hF, natc, w64_in, shs]; first | done | omega | (simp only [natc] at *; omega)) (fun kx hk hk2 => ?_); simp (disch := omega) only [hF, natc, w64_in, shs] at hk; (try obtain rfl : kx = 0 := hk); cbv)
    | (refine Chk.mk (by simp (disch := omega) only [maxN, hF, natc, w64_in, shs]; first | done | assumption | omega | (simp only [natc] at *; omega)) ?_; cbv)
    | (intro (hmx : _ ≤ maxN); replace hmx : _ ≤ 17592186044416 := hmx; cbv)
    | (intro _; cbv)
  subst hQ
  refine ⟨.vec 1, [.obj (sO c n k B X K G), .vec 0 1 fun i _ => .dv (g i)], ?_, rfl, rfl⟩
  refine (Ent.cls 0 [1, 2, 3, 4] (sM c n k B X K G) rfl rfl ?_).trans (Ent.ren [0, 5] rfl rfl ?_ ⟨rfl, trivial⟩)
  · exact ⟨⟨rfl, rfl, rfl, rfl, rfl, rfl, rfl, trivial⟩, rfl, rfl, rfl, rfl, trivial⟩
  · exact ⟨rfl, ⟨rfl, rfl, fun _ _ _ _ => rfl⟩, trivial⟩

theorem sRam_w (c n k : Int) (B X K G Z : Ob) (hg : CallOK (O := Ob) PR n_bus_Bus_Ram [.ptr 0 0] [.obj B] fun v m => v = .ptr 1 0 ∧ m = [.obj B, .obj Z]) :
    CallOK (O := Ob) PR n_soc_Soc_Ram [.ptr 0 0] [.obj (sO c n k B X K G)] fun v m => v = .ptr 1 0 ∧ m = [.obj (sO c n k B X K G), .obj Z] := by
  refine fn_walkv mixed fn_soc_Soc_Ram Ent.opn1 fun bin cmp un conv bnot beq band sel isel ofN toN inb nz nneg lt le room' slb add sub sbin scmp slen sget ssub addk pc pb pi pf ps mkok min_ ig aeq P hP hA hF Q hQ => ?_
  cbv
  repeat' first
    | (refine call_at hP [1] code_bus_Bus_Ram (hg) rfl ?_ ?_ ?_; (focus ((repeat' (first | exact trivial | exact rfl | (intro _ _ _ _; exact rfl) | refine And.intro ?_ ?_)); done)); (focus (cbv; (try simp); done)); rintro _ _ ⟨rfl, rfl⟩ _; cbv)
    | (refine Chk.mk trivial ?_; cbv)
    | (refine bc_true (by first | assumption | (simp (disch := omega) only [hF, natc, w64_in, shs]; first | done | assumption | omega | (simp only [natc] at *; omega))) ?_; cbv)
    | (refine bc_false (by first | assumption | (simp (disch := omega) only [hF, natc, w64_in, shs]; first | done | assumption | omega | (simp only [natc] at *; omega))) ?_; cbv)
    | (refine bc_split (fun h => ?_) (fun h => ?_) <;> (try simp (disch := omega) only [hF, natc, w64_in, shs] at h) <;> cbv)
    | (refine IdxVC.mk (by simp (disch := omega) only [hF, natc, w64_in, shs]; first | done | omega | (simp only [natc] at *; omega)) (fun kx hk hk2 => ?_); simp (disch := omega) only [hF, natc, w64_in, shs] at hk; (try obtain rfl : kx = 0 := hk); cbv)
    | (refine Chk.mk (by simp (disch := omega) only [maxN, hF, natc, w64_in, shs]; first | done | assumption | omega | (simp only [natc] at *; omega)) ?_; cbv)
    | (intro (hmx : _ ≤ maxN); replace hmx : _ ≤ 17592186044416 := hmx; cbv)
    | (intro _; cbv)
  subst hQ
  refine ⟨.ptr 1 0, [.obj (sO c n k B X K G), .obj Z], ?_, rfl, rfl⟩
  refine (Ent.cls 0 [1, 2, 3, 4] (sM c n k B X K G) rfl rfl ?_).trans (Ent.ren [0, 5] rfl rfl ?_ ⟨rfl, trivial⟩)
  · exact ⟨⟨rfl, rfl, rfl, rfl, rfl, rfl, rfl, trivial⟩, rfl, rfl, rfl, rfl, trivial⟩
  · exact ⟨rfl, rfl, trivial⟩

/-- Nothing, as it lies. -/
def noC (i : Nat) : DV := .cpx .f64 (lre [] i) (lim [] i)

theorem sWaits_in (S : SocS) (hS : S.ok) (i : Nat) (hi : i < S.c) (h0 : S.B.bufs i = []) :
    CallOK (O := Ob) PR n_soc_Soc_Waits [.ptr 0 0, .dv (.int .i64 i)] [.obj (socO S)] fun v m => v = .vec 1 ∧ m = [.obj (socO S), .vec 0 1 fun i _ => .dv (noC i)] :=
  sWaits_w _ _ _ _ _ _ _ i noC (busWaits S.B hS.hB i (by rw [hS.hBc]; exact hi) h0)

theorem sRam_in (S : SocS) (hS : S.ok) : CallOK (O := Ob) PR n_soc_Soc_Ram [.ptr 0 0] [.obj (socO S)] fun v m => v = .ptr 1 0 ∧ m = [.obj (socO S), .obj (rOb S.n S.B.r)] := by
  have h := busRam S.B hS.hB
  have e := hS.hBn
  rw [e] at h
  exact sRam_w _ _ _ _ _ _ _ _ h

/-- A core that is held reads and writes nothing. -/
theorem sOff (S : SocS) (hS : S.ok) (i : Nat) (hi : i < S.c) (hh : S.hd i = true) (a w : Int) :
    CallOK (O := Ob) PR n_soc_Soc_Read [.ptr 0 0, .dv (.int .i64 i), .dv (.int .i64 a)] [.obj (socO S)] (fun v m => v = .tup [.dv (.int .i64 0), .dv (.int .i64 19)] ∧ m = [.obj (socO S)]) ∧
    CallOK (O := Ob) PR n_soc_Soc_Fence [.ptr 0 0, .dv (.int .i64 i)] [.obj (socO S)] (fun v m => v = .tup [.dv (.int .i64 0), .dv (.int .i64 19)] ∧ m = [.obj (socO S)]) ∧
    CallOK (O := Ob) PR n_soc_Soc_Write [.ptr 0 0, .dv (.int .i64 i), .dv (.int .i64 a), .dv (.int .i64 w)] [.obj (socO S)] (fun v m => v = .dv (.int .i64 19) ∧ m = [.obj (socO S)]) := by
  have h := atS_off S hS i a hi hh
  have h2 := gUp_in S.c S.ep S.hd hS.hc.2 i hi
  rw [hh] at h2
  exact ⟨sRead_no _ _ _ _ _ _ _ i a 19 (by omega) h, sFence_off _ _ _ _ _ _ _ i _ (gEpoch_in S.c S.ep S.hd hS.hc.2 i hi) h2, sWrite_no _ _ _ _ _ _ _ i a w 19 (by omega) h⟩

/-- A core's read of a lock. -/
theorem sRead_lock_in (S : SocS) (hS : S.ok) (i y : Nat) (hi : i < S.c) (hh : S.hd i = false) (hy : y < S.k) : ∃ (b : Bool) (ow : Nat → Int),
    ((b = true ∧ S.ow y = 0 ∧ ow = fun t => if t = y then (i : Int) + 1 else S.ow t) ∨ (b = false ∧ S.ow y ≠ 0 ∧ ow = S.ow)) ∧ Nxt S { S with ow := ow, B := S.B.fen i } ∧
    CallOK (O := Ob) PR n_soc_Soc_Read [.ptr 0 0, .dv (.int .i64 i), .dv (.int .i64 (65792 + y))] [.obj (socO S)] fun v m => v = .tup [.dv (.int .i64 (if b = true then 1 else 0)), .dv (.int .i64 0)] ∧ m = [.obj (socO { S with ow := ow, B := S.B.fen i })] := by
  obtain ⟨b, ow, hn, ho, hc⟩ := lock_try S hS i y hi hh hy
  exact ⟨b, ow, ho, hn.trans (hn.1.fen i hi), sRead_lock _ _ _ _ _ _ _ _ _ i _ y 0 b (atS_ok S hS i _ 3 y 0 hi hh (dec_lock S.c S.n S.k y hS.hc hS.hn hS.hk hy)) (bfen S hS i hi) hc⟩

/-- A core's read of an epoch. -/
theorem sRead_gate_in (S : SocS) (hS : S.ok) (i y : Nat) (hi : i < S.c) (hh : S.hd i = false) (hy : y < S.c) :
    CallOK (O := Ob) PR n_soc_Soc_Read [.ptr 0 0, .dv (.int .i64 i), .dv (.int .i64 (66048 + y))] [.obj (socO S)] fun v m => v = .tup [.dv (.int .i64 (S.ep y)), .dv (.int .i64 0)] ∧ m = [.obj (socO (S.fen i))] :=
  sRead_gate _ _ _ _ _ _ _ _ i _ y 0 _ (atS_ok S hS i _ 4 y 0 hi hh (dec_gate S.c S.n S.k y hS.hc hS.hn hS.hk hy)) (bfen S hS i hi) (gEpoch_in S.c S.ep S.hd hS.hc.2 y hy)

/-- A core's store. -/
theorem sWrite_ram_in (S : SocS) (hS : S.ok) (i a w : Nat) (hi : i < S.c) (hh : S.hd i = false) (ha : a < S.n) (hw : w ≤ 65535) :
    CallOK (O := Ob) PR n_soc_Soc_Write [.ptr 0 0, .dv (.int .i64 i), .dv (.int .i64 a), .dv (.int .i64 w)] [.obj (socO S)] fun v m => v = .dv (.int .i64 0) ∧ m = [.obj (socO { S with B := S.B.store i a w })] :=
  sWrite_ram _ _ _ _ _ _ _ _ i a w 0 a _ (wordW_in w (by omega)) (atS_ok S hS i _ 1 0 a hi hh (dec_ram S.c S.n S.k a hS.hc hS.hn hS.hk ha)) (busStore S.B hS.hB i a w (by rw [hS.hBc]; exact hi) (by rw [hS.hBn]; exact ha) hw)

/-- A core frees its lock. -/
theorem sWrite_lock_in (S : SocS) (hS : S.ok) (i y : Nat) (hi : i < S.c) (hh : S.hd i = false) (hy : y < S.k) (ho : S.ow y = (i : Int) + 1) :
    CallOK (O := Ob) PR n_soc_Soc_Write [.ptr 0 0, .dv (.int .i64 i), .dv (.int .i64 (65792 + y)), .dv (.int .i64 0)] [.obj (socO S)] fun v m => v = .dv (.int .i64 0) ∧ m = [.obj (socO { S with ow := fun t => if t = y then 0 else S.ow t, B := S.B.fen i })] := by
  have hO := kOwner S.c S.k S.ow hS.hk.2 y hy (by have := hS.how y; have := hS.hc; omega)
  have e : S.ow y - 1 = (i : Int) := by omega
  rw [e] at hO
  exact sWrite_lock _ _ _ _ _ _ _ _ _ i _ 0 y 0 (wordW_in 0 (by omega)) (atS_ok S hS i _ 3 y 0 hi hh (dec_lock S.c S.n S.k y hS.hc hS.hn hS.hk hy)) hO (bfen S hS i hi) (kFree S.c S.k S.ow hS.hc.2 hS.hk.2 i y hi hy ho)

end Go.Proofs.YtiaceoomiflgcaaGreat

end

section
namespace Go.Proofs.YtiaceoomiflgcaaGreat
open Go.V
set_option linter.unusedVariables false
set_option linter.unusedSimpArgs false
set_option maxRecDepth 100000
set_option maxHeartbeats 8000000

theorem ok_few (c n k : Int) (N : Nat) (G : Nat → Nat → DV) : CallOK (O := Ob) PR n_law12_few [.agg [.dv (.int .i64 c), .dv (.int .i64 n), .dv (.int .i64 k)], .dv (.seq N 4 G)] []
    fun v m => v = .dv (.bool (decide (N ≤ 60 ∧ n ≤ 100))) ∧ m = [] := by
  by_cases hN : N ≤ 60
  · by_cases hn : n ≤ 100
    · rw [decide_eq_true ⟨hN, hn⟩]
      refine fn_walkv mixed fn_law12_few (Ent.refl _ _) fun bin cmp un conv bnot beq band sel isel ofN toN inb nz nneg lt le room' slb add sub sbin scmp slen sget ssub addk pc pb pi pf ps mkok min_ ig aeq P hP hA hF Q hQ => ?_
      have hc : cmp .leq n 100 = true := by simp only [hF, decide_eq_true_eq]; exact hn
      cbv
      repeat' first
        | ((rw [hc]); cbv)
        | (refine Chk.mk trivial ?_; cbv)
        | (refine bc_true (by first | assumption | (simp (disch := omega) only [hF, natc, w64_in, shs]; first | done | assumption | omega | (simp only [natc] at *; omega))) ?_; cbv)
        | (refine bc_false (by first | assumption | (simp (disch := omega) only [hF, natc, w64_in, shs]; first | done | assumption | omega | (simp only [natc] at *; omega))) ?_; cbv)
        | (refine bc_split (fun h => ?_) (fun h => ?_) <;> (try simp (disch := omega) only [hF, natc, w64_in, shs] at h) <;> cbv)
        | (refine IdxVC.mk (by simp (disch := omega) only [hF, natc, w64_in, shs]; first | done | omega | (simp only [natc] at *; omega)) (fun kx hk hk2 => ?_); simp (disch := omega) only [hF, natc, w64_in, shs] at hk; (try obtain rfl : kx = 0 := hk); cbv)
        | (refine Chk.mk (by simp (disch := omega) only [maxN, hF, natc, w64_in, shs]; first | done | assumption | omega | (simp only [natc] at *; omega)) ?_; cbv)
        | (intro (hmx : _ ≤ maxN); replace hmx : _ ≤ 17592186044416 := hmx; cbv)
        | (intro _; cbv)
      subst hQ; exact leaf_data rfl rfl ⟨rfl, rfl⟩
    · rw [decide_eq_false (by omega)]
      refine fn_walkv mixed fn_law12_few (Ent.refl _ _) fun bin cmp un conv bnot beq band sel isel ofN toN inb nz nneg lt le room' slb add sub sbin scmp slen sget ssub addk pc pb pi pf ps mkok min_ ig aeq P hP hA hF Q hQ => ?_
      have hc : cmp .leq n 100 = false := by simp only [hF, decide_eq_false_iff_not]; exact hn
      cbv
      repeat' first
        | ((rw [hc]); cbv)
        | (refine Chk.mk trivial ?_; cbv)
        | (refine bc_true (by first | assumption | (simp (disch := omega) only [hF, natc, w64_in, shs]; first | done | assumption | omega | (simp only [natc] at *; omega))) ?_; cbv)
        | (refine bc_false (by first | assumption | (simp (disch := omega) only [hF, natc, w64_in, shs]; first | done | assumption | omega | (simp only [natc] at *; omega))) ?_; cbv)
        | (refine bc_split (fun h => ?_) (fun h => ?_) <;> (try simp (disch := omega) only [hF, natc, w64_in, shs] at h) <;> cbv)
        | (refine IdxVC.mk (by simp (disch := omega) only [hF, natc, w64_in, shs]; first | done | omega | (simp only [natc] at *; omega)) (fun kx hk hk2 => ?_); simp (disch := omega) only [hF, natc, w64_in, shs] at hk; (try obtain rfl : kx = 0 := hk); cbv)
        | (refine Chk.mk (by simp (disch := omega) only [maxN, hF, natc, w64_in, shs]; first | done | assumption | omega | (simp only [natc] at *; omega)) ?_; cbv)
        | (intro (hmx : _ ≤ maxN); replace hmx : _ ≤ 17592186044416 := hmx; cbv)
        | (intro _; cbv)
      subst hQ; exact leaf_data rfl rfl ⟨rfl, rfl⟩
  · rw [decide_eq_false (by omega)]
    refine fn_walkv mixed fn_law12_few (Ent.refl _ _) fun bin cmp un conv bnot beq band sel isel ofN toN inb nz nneg lt le room' slb add sub sbin scmp slen sget ssub addk pc pb pi pf ps mkok min_ ig aeq P hP hA hF Q hQ => ?_
    cbv
    repeat' first
      | (refine Chk.mk trivial ?_; cbv)
      | (refine bc_true (by first | assumption | (simp (disch := omega) only [hF, natc, w64_in, shs]; first | done | assumption | omega | (simp only [natc] at *; omega))) ?_; cbv)
      | (refine bc_false (by first | assumption | (simp (disch := omega) only [hF, natc, w64_in, shs]; first | done | assumption | omega | (simp only [natc] at *; omega))) ?_; cbv)
      | (refine bc_split (fun h => ?_) (fun h => ?_) <;> (try simp (disch := omega) only [hF, natc, w64_in, shs] at h) <;> cbv)
      | (refine IdxVC.mk (by simp (disch := omega) only [hF, natc, w64_in, shs]; first | done | omega | (simp only [natc] at *; omega)) (fun kx hk hk2 => ?_); simp (disch := omega) only [hF, natc, w64_in, shs] at hk; (try obtain rfl : kx = 0 := hk); cbv)
      | (refine Chk.mk (by simp (disch := omega) only [maxN, hF, natc, w64_in, shs]; first | done | assumption | omega | (simp only [natc] at *; omega)) ?_; cbv)
      | (intro (hmx : _ ≤ maxN); replace hmx : _ ≤ 17592186044416 := hmx; cbv)
      | (intro _; cbv)
    subst hQ; exact leaf_data rfl rfl ⟨rfl, rfl⟩

theorem alive_w (P P3 : Ob → Prop)
    (h0 : CallOK (O := Ob) PR n_soc_New [.agg [.dv (.int .i64 2), .dv (.int .i64 8), .dv (.int .i64 1)], .dv (.int .i64 2)] [] fun v m => v = .tup [.ptr 0 0, .dv (.int .i64 0)] ∧ ∃ x, P x ∧ m = [.obj x])
    (hs : ∀ x, P x → ∃ x1 x2, CallOK (O := Ob) PR n_soc_Soc_Read [.ptr 0 0, .dv (.int .i64 0), .dv (.int .i64 65792)] [.obj x] (fun v m => v = .tup [.dv (.int .i64 1), .dv (.int .i64 0)] ∧ m = [.obj x1]) ∧
      CallOK (O := Ob) PR n_soc_Soc_Read [.ptr 0 0, .dv (.int .i64 1), .dv (.int .i64 65792)] [.obj x1] (fun v m => v = .tup [.dv (.int .i64 0), .dv (.int .i64 0)] ∧ m = [.obj x2]) ∧
      CallOK (O := Ob) PR n_soc_Soc_Hold [.ptr 0 0, .dv (.int .i64 0)] [.obj x2] (fun v m => v = .dv (.int .i64 0) ∧ ∃ x, P3 x ∧ m = [.obj x]))
    (h3 : ∀ x, P3 x → CallOK (O := Ob) PR n_soc_Soc_Owner [.ptr 0 0, .dv (.int .i64 0)] [.obj x] (fun v m => v = .tup [.dv (.int .i64 (-1)), .dv (.int .i64 0)] ∧ m = [.obj x])) :
    CallOK (O := Ob) PR n_law12_alive [] [] fun v m => v = .dv (.bool true) ∧ m = [] := by
  refine fn_walkv mixed fn_law12_alive (Ent.refl _ _) fun bin cmp un conv bnot beq band sel isel ofN toN inb nz nneg lt le room' slb add sub sbin scmp slen sget ssub addk pc pb pi pf ps mkok min_ ig aeq P hP hA hF Q hQ => ?_
  cbv
  repeat' first
    | (refine call_at hP [] code_soc_New (h0) rfl ?_ ?_ ?_; (focus ((repeat' (first | exact trivial | exact rfl | (intro _ _ _ _; exact rfl) | refine And.intro ?_ ?_)); done)); (focus (cbv; (try simp); done)); rintro _ _ ⟨rfl, x, hx, rfl⟩ _; cbv)
    | (refine Chk.mk trivial ?_; cbv)
    | (refine bc_true (by first | assumption | (simp (disch := omega) only [hF, natc, w64_in, shs]; first | done | assumption | omega | (simp only [natc] at *; omega))) ?_; cbv)
    | (refine bc_false (by first | assumption | (simp (disch := omega) only [hF, natc, w64_in, shs]; first | done | assumption | omega | (simp only [natc] at *; omega))) ?_; cbv)
    | (refine bc_split (fun h => ?_) (fun h => ?_) <;> (try simp (disch := omega) only [hF, natc, w64_in, shs] at h) <;> cbv)
    | (refine IdxVC.mk (by simp (disch := omega) only [hF, natc, w64_in, shs]; first | done | omega | (simp only [natc] at *; omega)) (fun kx hk hk2 => ?_); simp (disch := omega) only [hF, natc, w64_in, shs] at hk; (try obtain rfl : kx = 0 := hk); cbv)
    | (refine Chk.mk (by simp (disch := omega) only [maxN, hF, natc, w64_in, shs]; first | done | assumption | omega | (simp only [natc] at *; omega)) ?_; cbv)
    | (intro (hmx : _ ≤ maxN); replace hmx : _ ≤ 17592186044416 := hmx; cbv)
    | (intro _; cbv)
  obtain ⟨x1, x2, k1, k2, k3⟩ := hs x hx
  cbv
  repeat' first
    | (refine call_at hP [0] code_soc_Soc_Read (k1) rfl ?_ ?_ ?_; (focus ((repeat' (first | exact trivial | exact rfl | (intro _ _ _ _; exact rfl) | refine And.intro ?_ ?_)); done)); (focus (cbv; (try simp); done)); rintro _ _ ⟨rfl, rfl⟩ _; cbv)
    | (refine call_at hP [0] code_soc_Soc_Read (k2) rfl ?_ ?_ ?_; (focus ((repeat' (first | exact trivial | exact rfl | (intro _ _ _ _; exact rfl) | refine And.intro ?_ ?_)); done)); (focus (cbv; (try simp); done)); rintro _ _ ⟨rfl, rfl⟩ _; cbv)
    | (refine call_at hP [0] code_soc_Soc_Hold (k3) rfl ?_ ?_ ?_; (focus ((repeat' (first | exact trivial | exact rfl | (intro _ _ _ _; exact rfl) | refine And.intro ?_ ?_)); done)); (focus (cbv; (try simp); done)); rintro _ _ ⟨rfl, x3, hx3, rfl⟩ _; cbv)
    | (refine Chk.mk trivial ?_; cbv)
    | (refine bc_true (by first | assumption | (simp (disch := omega) only [hF, natc, w64_in, shs]; first | done | assumption | omega | (simp only [natc] at *; omega))) ?_; cbv)
    | (refine bc_false (by first | assumption | (simp (disch := omega) only [hF, natc, w64_in, shs]; first | done | assumption | omega | (simp only [natc] at *; omega))) ?_; cbv)
    | (refine bc_split (fun h => ?_) (fun h => ?_) <;> (try simp (disch := omega) only [hF, natc, w64_in, shs] at h) <;> cbv)
    | (refine IdxVC.mk (by simp (disch := omega) only [hF, natc, w64_in, shs]; first | done | omega | (simp only [natc] at *; omega)) (fun kx hk hk2 => ?_); simp (disch := omega) only [hF, natc, w64_in, shs] at hk; (try obtain rfl : kx = 0 := hk); cbv)
    | (refine Chk.mk (by simp (disch := omega) only [maxN, hF, natc, w64_in, shs]; first | done | assumption | omega | (simp only [natc] at *; omega)) ?_; cbv)
    | (intro (hmx : _ ≤ maxN); replace hmx : _ ≤ 17592186044416 := hmx; cbv)
    | (intro _; cbv)
  have k4 := h3 x3 hx3
  cbv
  repeat' first
    | (refine call_at hP [0] code_soc_Soc_Owner (k4) rfl ?_ ?_ ?_; (focus ((repeat' (first | exact trivial | exact rfl | (intro _ _ _ _; exact rfl) | refine And.intro ?_ ?_)); done)); (focus (cbv; (try simp); done)); rintro _ _ ⟨rfl, rfl⟩ _; cbv)
    | (refine Chk.mk trivial ?_; cbv)
    | (refine bc_true (by first | assumption | (simp (disch := omega) only [hF, natc, w64_in, shs]; first | done | assumption | omega | (simp only [natc] at *; omega))) ?_; cbv)
    | (refine bc_false (by first | assumption | (simp (disch := omega) only [hF, natc, w64_in, shs]; first | done | assumption | omega | (simp only [natc] at *; omega))) ?_; cbv)
    | (refine bc_split (fun h => ?_) (fun h => ?_) <;> (try simp (disch := omega) only [hF, natc, w64_in, shs] at h) <;> cbv)
    | (refine IdxVC.mk (by simp (disch := omega) only [hF, natc, w64_in, shs]; first | done | omega | (simp only [natc] at *; omega)) (fun kx hk hk2 => ?_); simp (disch := omega) only [hF, natc, w64_in, shs] at hk; (try obtain rfl : kx = 0 := hk); cbv)
    | (refine Chk.mk (by simp (disch := omega) only [maxN, hF, natc, w64_in, shs]; first | done | assumption | omega | (simp only [natc] at *; omega)) ?_; cbv)
    | (intro (hmx : _ ≤ maxN); replace hmx : _ ≤ 17592186044416 := hmx; cbv)
    | (intro _; cbv)
  have e : cmp .eql 0 0 = true := by simp only [hF]; rfl
  rw [e]
  subst hQ; exact leaf_data rfl rfl ⟨rfl, rfl⟩

/-- The chapter's example. -/
theorem ok_alive : CallOK (O := Ob) PR n_law12_alive [] [] fun v m => v = .dv (.bool true) ∧ m = [] := by
  refine alive_w (fun x => ∃ S : SocS, S.ok ∧ S.c = 2 ∧ S.n = 8 ∧ S.k = 1 ∧ S.ow = (fun _ => 0) ∧ S.hd = (fun _ => false) ∧ x = socO S) (fun x => ∃ S : SocS, S.ok ∧ S.c = 2 ∧ S.k = 1 ∧ S.ow 0 = 0 ∧ x = socO S) ?_ ?_ ?_
  · refine (sNew_ok 2 8 1 2 (by omega) (by omega) (by omega) (by omega)).mono fun v m ⟨hv, S, h1, h2, h3, h4, h5, h6, _, hm⟩ => ⟨hv, _, ⟨S, h1, by omega, by omega, by omega, h5, h6, rfl⟩, hm⟩
  · rintro x ⟨S, hS, hc, hn, hk, ho, hh, rfl⟩
    obtain ⟨b, ow, hb, hN, h1⟩ := sRead_lock_in S hS 0 0 (by omega) (by rw [hh]) (by omega)
    obtain ⟨rfl, _, rfl⟩ : b = true ∧ S.ow 0 = 0 ∧ ow = fun t => if t = 0 then ((0 : Nat) : Int) + 1 else S.ow t := by
      rcases hb with h | ⟨_, h, _⟩
      · exact h
      · rw [ho] at h; exact absurd rfl h
    obtain ⟨b2, ow2, hb2, hN2, h2⟩ := sRead_lock_in _ hN.1 1 0 (by show 1 < S.c; omega) (by show S.hd 1 = false; rw [hh]) (by show 0 < S.k; omega)
    obtain ⟨rfl, _, rfl⟩ : b2 = false ∧ _ ∧ ow2 = fun t => if t = 0 then ((0 : Nat) : Int) + 1 else S.ow t := by
      rcases hb2 with ⟨_, h, _⟩ | h
      · exact absurd h (by show (if 0 = 0 then ((0 : Nat) : Int) + 1 else S.ow 0) ≠ 0; rw [if_pos rfl]; omega)
      · exact h
    have h3 := sHold_in _ hN2.1 0 (by show 0 < S.c; omega) (by show S.hd 0 = false; rw [hh])
    refine ⟨_, _, h1, h2, h3.mono fun v m ⟨hv, S', hn', _, _, how, hm⟩ => ⟨hv, _, ⟨S', hn'.1, hn'.2.1.trans hc, hn'.2.2.2.trans hk, ?_, rfl⟩, hm⟩⟩
    rw [how]
    show (if (if 0 = 0 then ((0 : Nat) : Int) + 1 else S.ow 0) = ((0 : Nat) : Int) + 1 then (0 : Int) else _) = 0
    rw [if_pos (by rw [if_pos rfl])]
  · rintro x ⟨S, hS, hc, hk, ho, rfl⟩
    have h := sOwner_in S hS 0 (by omega)
    rw [ho] at h
    exact h

end Go.Proofs.YtiaceoomiflgcaaGreat

end

section
namespace Go.Proofs.YtiaceoomiflgcaaGreat
open Go.V
set_option linter.unusedVariables false
set_option linter.unusedSimpArgs false
set_option maxRecDepth 100000
set_option maxHeartbeats 8000000

def xV (N : Nat) (G : Nat → Nat → DV) (i a : Int) : SV := .agg [.dv (.seq N 4 G), .dv (.int .i64 i), .dv (.int .i64 a)]
def plV (c n k : Int) : SV := .agg [.dv (.int .i64 c), .dv (.int .i64 n), .dv (.int .i64 k)]

def i64 (x : Int) : Prop := -9223372036854775808 ≤ x ∧ x ≤ 9223372036854775807

/-- The calls of a law's list are calls. -/
def okOps (N : Nat) (G : Nat → Nat → DV) : Prop := ∀ t, t < N → ∃ k c a w, a ≤ 9223372036854775807 ∧ G t 0 = .int .i64 k ∧ G t 1 = .int .i64 c ∧ G t 2 = .int .i64 a ∧ G t 3 = .int .i64 w

theorem ok_ops (c n : Int) (k N : Nat) (G : Nat → Nat → DV) (hG : okOps N G) (t : Nat) (ht : t < N) (x : Ob) (hx : ∃ S : SocS, S.ok ∧ (S.c : Int) = c ∧ (S.n : Int) = n ∧ S.k = k ∧ x = socO S) :
    CallOK (O := Ob) PR n_law12_Do [.ptr 0 0, .agg [.dv (G t 0), .dv (G t 1), .dv (G t 2), .dv (G t 3)]] [.obj x] fun v m => Two v ∧ ∃ x, (∃ S : SocS, S.ok ∧ (S.c : Int) = c ∧ (S.n : Int) = n ∧ S.k = k ∧ x = socO S) ∧ m = [.obj x] := by
  obtain ⟨S, hS, hc, hn, hk, rfl⟩ := hx
  obtain ⟨kk, cc, aa, ww, ha, e0, e1, e2, e3⟩ := hG t ht
  rw [e0, e1, e2, e3]
  exact (ok_Do S hS kk cc aa ww ha).mono fun v m ⟨hv, S', h1, hm⟩ => ⟨hv, _, ⟨S', h1.1, by rw [h1.2.1]; exact hc, by rw [h1.2.2.1]; exact hn, h1.2.2.2.trans hk, rfl⟩, hm⟩

end Go.Proofs.YtiaceoomiflgcaaGreat

end

namespace Go.Proofs.YtiaceoomiflgcaaGreat
open Go.V

theorem in64' {n : Int} (h : IntKind.i64.has n) : i64 n := by
  simpa [i64, IntKind.has, IntKind.min, IntKind.max, IntKind.bits, IntKind.signed] using h

theorem plan_of {g : Nat → DV} (h : Ty.hasL [.int .i64, .int .i64, .int .i64] g) : ∃ c n k, i64 c ∧ i64 n ∧ i64 k ∧ (SV.agg [.dv (g 0), .dv (g 1), .dv (g 2)]) = plV c n k := by
  obtain ⟨⟨c, hc, e0⟩, ⟨n, hn, e1⟩, ⟨k, hk, e2⟩, _⟩ := h
  have e0 : g 0 = _ := e0
  have e1 : g 1 = _ := e1
  have e2 : g 2 = _ := e2
  exact ⟨c, n, k, in64' hc, in64' hn, in64' hk, by rw [e0, e1, e2]; rfl⟩

theorem locking_of {g : Nat → DV} (h : Ty.hasL [.slice [.int .i64, .int .i64, .int .i64, .int .i64], .int .i64, .int .i64] g) : ∃ N G i a, okOps N G ∧ (SV.agg [.dv (g 0), .dv (g 1), .dv (g 2)]) = xV N G i a := by
  obtain ⟨⟨N, G, e0, _, hG⟩, ⟨i, _, e1⟩, ⟨a, _, e2⟩, _⟩ := h
  have e0 : g 0 = .seq N 4 G := e0
  have e1 : g 1 = _ := e1
  have e2 : g 2 = _ := e2
  refine ⟨N, G, i, a, fun t ht => ?_, by rw [e0, e1, e2]; rfl⟩
  obtain ⟨⟨a0, _, h0⟩, ⟨a1, _, h1⟩, ⟨a2, r2, h2⟩, ⟨a3, _, h3⟩, _⟩ := hG t ht
  exact ⟨a0, a1, a2, a3, (in64' r2).2, h0, h1, h2, h3⟩

end Go.Proofs.YtiaceoomiflgcaaGreat
