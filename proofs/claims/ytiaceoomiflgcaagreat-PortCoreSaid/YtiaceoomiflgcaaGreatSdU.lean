/-
  The laws' arguments, read.
-/
import Derived.Test.YtiaceoomiflgcaaGreatSdJ
import Derived.Test.YtiaceoomiflgcaaGreatSeIr
import Derived.Test.YtiaceoomiflgcaaGreatVcgW
section
namespace Go.Proofs.YtiaceoomiflgcaaGreat
open Go.V
set_option linter.unusedVariables false
set_option linter.unusedSimpArgs false
set_option maxRecDepth 100000
set_option maxHeartbeats 8000000

def Tot (S : SocS) (f : FuncId) (args : List SV) (R : SV → Prop) : Prop := CallOK (O := Ob) PR f args [.obj (socO S)] fun v m => R v ∧ ∃ S', Nxt S S' ∧ m = [.obj (socO S')]

theorem Nxt.trans {S T U : SocS} (h : Nxt S T) (k : Nxt T U) : Nxt S U := ⟨k.1, k.2.1.trans h.2.1, k.2.2.1.trans h.2.2.1, k.2.2.2.trans h.2.2.2⟩

theorem SocS.ok.setB {S : SocS} (hS : S.ok) (B : BusS) (h1 : B.ok) (h2 : B.cores = S.B.cores) (h3 : B.n = S.B.n) (h4 : ∀ i, i < S.c → S.hd i = true → B.bufs i = []) : Nxt S { S with B := B } :=
  ⟨⟨hS.hc, hS.hn, hS.hk, h1, h2.trans hS.hBc, h3.trans hS.hBn, hS.hX, hS.hXc, hS.how, hS.hep, fun j hj hh => ⟨h4 j hj hh, (hS.hhd j hj hh).2⟩⟩, rfl, rfl, rfl⟩
theorem SocS.ok.setX {S : SocS} (hS : S.ok) (X : BoxS) (h1 : X.ok) (h2 : X.cores = S.c) : Nxt S { S with X := X } :=
  ⟨⟨hS.hc, hS.hn, hS.hk, hS.hB, hS.hBc, hS.hBn, h1, h2, hS.how, hS.hep, hS.hhd⟩, rfl, rfl, rfl⟩
theorem SocS.ok.setK {S : SocS} (hS : S.ok) (ow : Nat → Int) (h1 : ∀ i, 0 ≤ ow i ∧ ow i ≤ S.c) (h2 : ∀ j, j < S.c → S.hd j = true → ∀ i, ow i ≠ (j : Int) + 1) : Nxt S { S with ow := ow } :=
  ⟨⟨hS.hc, hS.hn, hS.hk, hS.hB, hS.hBc, hS.hBn, hS.hX, hS.hXc, h1, hS.hep, fun j hj hh => ⟨(hS.hhd j hj hh).1, h2 j hj hh⟩⟩, rfl, rfl, rfl⟩

/-- The stores of a core go out. -/
def BusS.fen (B : BusS) (j : Nat) : BusS := B.upd (rputs B.r (B.bufs j)) j []
def SocS.fen (S : SocS) (j : Nat) : SocS := { S with B := S.B.fen j }

theorem SocS.ok.fen {S : SocS} (hS : S.ok) (j : Nat) (hj : j < S.c) : Nxt S (S.fen j) := by
  refine hS.setB _ (S.B.fence_ok hS.hB j (by rw [hS.hBc]; exact hj)) rfl rfl fun i hi hh => ?_
  show (if i = j then [] else S.B.bufs i) = []
  split
  · rfl
  · exact (hS.hhd i hi hh).1

theorem bfen (S : SocS) (hS : S.ok) (j : Nat) (hj : j < S.c) : BFen (busO S.B) (busO (S.fen j).B) j :=
  (busFence S.B hS.hB j (by rw [hS.hBc]; exact hj)).mono fun v m ⟨hv, hm⟩ => ⟨⟨_, hv⟩, hm⟩

/-- Behind a call that changed the mailboxes too. -/
theorem Nxt.box {S T : SocS} (h : Nxt S T) {X : Ob} (hX : isBox S.c X) : ∃ S', Nxt S S' ∧ S'.B = T.B ∧ S'.ow = T.ow ∧ S'.ep = T.ep ∧ S'.hd = T.hd ∧ socO S' = sO T.c T.n T.k (busO T.B) X (kO T.c T.k T.ow) (gO T.c T.ep T.hd) := by
  obtain ⟨Z, h1, h2, rfl⟩ := hX
  exact ⟨_, h.trans (h.1.setX Z h1 (h2.trans h.2.1.symm)), rfl, rfl, rfl, rfl, rfl⟩

/-- A core gets a lock, if it is free. -/
theorem lock_try (S : SocS) (hS : S.ok) (j y : Nat) (hj : j < S.c) (hh : S.hd j = false) (hy : y < S.k) : ∃ (b : Bool) (ow : Nat → Int), Nxt S { S with ow := ow } ∧
    ((b = true ∧ S.ow y = 0 ∧ ow = fun i => if i = y then (j : Int) + 1 else S.ow i) ∨ (b = false ∧ S.ow y ≠ 0 ∧ ow = S.ow)) ∧
    CallOK (O := Ob) PR n_locks_Bank_Try [.ptr 0 0, .dv (.int .i64 j), .dv (.int .i64 y)] [.obj (kO S.c S.k S.ow)] fun v m => v = .tup [.dv (.bool b), .dv (.int .i64 0)] ∧ m = [.obj (kO S.c S.k ow)] := by
  by_cases h0 : S.ow y = 0
  · refine ⟨true, _, ?_, .inl ⟨rfl, h0, rfl⟩, kTry0 S.c S.k S.ow hS.hc.2 hS.hk.2 j y hj hy h0⟩
    refine hS.setK _ (fun i => ?_) fun i hi hhi t => ?_
    · show 0 ≤ (if i = y then (j : Int) + 1 else S.ow i) ∧ (if i = y then (j : Int) + 1 else S.ow i) ≤ S.c
      split
      · omega
      · exact hS.how i
    · show (if t = y then (j : Int) + 1 else S.ow t) ≠ (i : Int) + 1
      split
      · intro e
        obtain rfl : j = i := by omega
        rw [hh] at hhi; cases hhi
      · exact (hS.hhd i hi hhi).2 t
  · exact ⟨false, S.ow, Nxt.refl hS, .inr ⟨rfl, h0, rfl⟩, kTry1 S.c S.k S.ow hS.hc.2 hS.hk.2 j y hj hy h0⟩

def Two (v : SV) : Prop := ∃ x e, v = .tup [.dv (.int .i64 x), .dv (.int .i64 e)]
def One (v : SV) : Prop := ∃ e, v = .dv (.int .i64 e)

theorem sRead_tot (S : SocS) (hS : S.ok) (j a : Int) (ha : a ≤ 9223372036854775807) : Tot S n_soc_Soc_Read [.ptr 0 0, .dv (.int .i64 j), .dv (.int .i64 a)] Two := by
  rcases at_cases S hS j a ha with ⟨e, he, h⟩ | ⟨i, rfl, hi, hh, x, y, z, h, hx⟩
  · exact (sRead_no _ _ _ _ _ _ _ j a e he h).mono fun v m ⟨hv, hm⟩ => ⟨⟨_, _, hv⟩, S, Nxt.refl hS, hm⟩
  · have hiB : i < S.B.cores := by rw [hS.hBc]; exact hi
    have hiX : i < S.X.cores := by rw [hS.hXc]; exact hi
    have hf := bfen S hS i hi
    have hN := hS.fen i hi
    have hXX : isBox S.c (boxO S.X) := ⟨S.X, hS.hX, hS.hXc, rfl⟩
    rcases hx with ⟨rfl, rfl, rfl, hz⟩ | ⟨rfl, hy, hz⟩ | ⟨rfl, hy, rfl, rfl⟩ | ⟨rfl, hy, rfl, rfl⟩
    · exact (sRead_ram _ _ _ _ _ _ _ i z 0 z _ _ h (busLoad S.B hS.hB i z hiB (by rw [hS.hBn]; exact hz))).mono fun v m ⟨hv, hm⟩ => ⟨⟨_, _, hv⟩, S, Nxt.refl hS, hm⟩
    · by_cases hyi : y = i
      · subst hyi
        have fin : ∀ (v : SV) (m : List (Chunk Ob)), ((∃ x, v = .tup [.dv (.int .i64 x), .dv (.int .i64 0)]) ∧ ∃ X, isBox S.c X ∧ m = [.obj (sO S.c S.n S.k (busO (S.fen y).B) X (kO S.c S.k S.ow) (gO S.c S.ep S.hd))]) → Two v ∧ ∃ S', Nxt S S' ∧ m = [.obj (socO S')] := by
          rintro v m ⟨⟨u, hv⟩, X, hX, hm⟩
          obtain ⟨S', h1, _, _, _, _, h2⟩ := hN.box hX
          exact ⟨⟨_, _, hv⟩, S', h1, by rw [hm, h2]; rfl⟩
        rcases (by omega : z = 0 ∨ z = 1 ∨ z = 2) with rfl | rfl | rfl
        · exact (sRead_mail0 _ _ _ _ _ _ _ _ y a (isBox S.c) h hf ((boxPending S.X hS.hX y hiX).mono fun v m ⟨hv, hm⟩ => ⟨⟨_, _, hv⟩, _, hXX, hm⟩)).mono fin
        · refine (sRead_mail1 _ _ _ _ _ _ _ _ y a (isBox S.c) h hf ((boxTake S.X hS.hX y hiX).mono fun v m ⟨hv, hm⟩ => ⟨hv, ?_⟩)).mono fin
          rw [hS.hXc] at hm; exact hm.is
        · refine (sRead_mail2 _ _ _ _ _ _ _ _ y a (isBox S.c) h hf ((boxWaits S.X hS.hX y hiX).mono fun v m ⟨hv, hm⟩ => ⟨⟨_, hv⟩, ?_⟩)).mono fin
          rw [hS.hXc] at hm; exact hm.is
      · exact (sRead_mail_no _ _ _ _ _ _ _ i a y z (by omega) h).mono fun v m ⟨hv, hm⟩ => ⟨⟨_, _, hv⟩, S, Nxt.refl hS, hm⟩
    · obtain ⟨b, ow, hn, _, hc⟩ := lock_try S hS i y hi hh hy
      refine (sRead_lock _ _ _ _ _ _ _ _ _ i _ y 0 b h hf hc).mono fun v m ⟨hv, hm⟩ => ⟨⟨_, _, hv⟩, _, hn.trans (hn.1.fen i hi), hm⟩
    · exact (sRead_gate _ _ _ _ _ _ _ _ i _ y 0 _ h hf (gEpoch_in S.c S.ep S.hd hS.hc.2 y hy)).mono fun v m ⟨hv, hm⟩ => ⟨⟨_, _, hv⟩, _, hN, hm⟩

end Go.Proofs.YtiaceoomiflgcaaGreat

end

section
namespace Go.Proofs.YtiaceoomiflgcaaGreat
open Go.V
set_option linter.unusedVariables false
set_option linter.unusedSimpArgs false
set_option maxRecDepth 100000
set_option maxHeartbeats 8000000

theorem wordW (w : Int) : WordW w (w % 65536) := (ok_Word w).mono fun v m ⟨⟨x, hx, hv⟩, hm⟩ => ⟨by rw [hv, hx], hm⟩
theorem wordW_in (w : Int) (hw : 0 ≤ w ∧ w ≤ 65535) : WordW w w := word_in w hw

theorem BusS.store_buf (S : BusS) (j a w i : Nat) (hi : i ≠ j) : (S.store j a w).bufs i = S.bufs i := by
  unfold BusS.store; split <;> exact if_neg hi

theorem SocS.ok.store {S : SocS} (hS : S.ok) (j a w : Nat) (hj : j < S.c) (hh : S.hd j = false) (ha : a < S.n) (hw : w ≤ 65535) : Nxt S { S with B := S.B.store j a w } := by
  refine hS.setB _ (S.B.store_ok hS.hB j a w (by rw [hS.hBc]; exact hj) (by rw [hS.hBn]; exact ha) hw) ?_ ?_ fun i hi hhi => ?_
  · unfold BusS.store; split <;> rfl
  · unfold BusS.store; split <;> rfl
  · rw [S.B.store_buf j a w i fun e => by subst e; rw [hh] at hhi; cases hhi]
    exact (hS.hhd i hi hhi).1

theorem SocS.ok.free {S : SocS} (hS : S.ok) (y : Nat) : Nxt S { S with ow := fun t => if t = y then 0 else S.ow t } := by
  refine hS.setK _ (fun t => ?_) fun i hi hhi t => ?_
  · show 0 ≤ (if t = y then (0 : Int) else S.ow t) ∧ (if t = y then (0 : Int) else S.ow t) ≤ S.c
    split
    · omega
    · exact hS.how t
  · show (if t = y then (0 : Int) else S.ow t) ≠ (i : Int) + 1
    split
    · omega
    · exact (hS.hhd i hi hhi).2 t

theorem sWrite_tot (S : SocS) (hS : S.ok) (j a w : Int) (ha : a ≤ 9223372036854775807) : Tot S n_soc_Soc_Write [.ptr 0 0, .dv (.int .i64 j), .dv (.int .i64 a), .dv (.int .i64 w)] One := by
  rcases at_cases S hS j a ha with ⟨e, he, h⟩ | ⟨i, rfl, hi, hh, x, y, z, h, hx⟩
  · exact (sWrite_no _ _ _ _ _ _ _ j a w e he h).mono fun v m ⟨hv, hm⟩ => ⟨⟨_, hv⟩, S, Nxt.refl hS, hm⟩
  · have hiB : i < S.B.cores := by rw [hS.hBc]; exact hi
    have hiX : i < S.X.cores := by rw [hS.hXc]; exact hi
    have hf := bfen S hS i hi
    have hN := hS.fen i hi
    have fin : ∀ (v : SV) (m : List (Chunk Ob)), ((∃ x, v = .dv (.int .i64 x)) ∧ ∃ X, isBox S.c X ∧ m = [.obj (sO S.c S.n S.k (busO (S.fen i).B) X (kO S.c S.k S.ow) (gO S.c S.ep S.hd))]) → One v ∧ ∃ S', Nxt S S' ∧ m = [.obj (socO S')] := by
      rintro v m ⟨⟨u, hv⟩, X, hX, hm⟩
      obtain ⟨S', h1, _, _, _, _, h2⟩ := hN.box hX
      exact ⟨⟨_, hv⟩, S', h1, by rw [hm, h2]; rfl⟩
    by_cases hw : 0 ≤ w ∧ w ≤ 65535
    · have hww := wordW_in w hw
      rcases hx with ⟨rfl, rfl, rfl, hz⟩ | ⟨rfl, hy, hz⟩ | ⟨rfl, hy, rfl, rfl⟩ | ⟨rfl, hy, rfl, rfl⟩
      · obtain ⟨u, rfl⟩ : ∃ u : Nat, w = u := ⟨w.toNat, by omega⟩
        exact (sWrite_ram _ _ _ _ _ _ _ _ i z u 0 z _ hww h (busStore S.B hS.hB i z u hiB (by rw [hS.hBn]; exact hz) (by omega))).mono fun v m ⟨hv, hm⟩ => ⟨⟨_, hv⟩, _, hS.store i z u hi hh hz (by omega), hm⟩
      · by_cases hz2 : z = 2
        · subst hz2
          refine (sWrite_ring _ _ _ _ _ _ _ _ i a w y (isBox S.c) hww h hf ((boxRing S.X hS.hX i y hiX (by rw [hS.hXc]; exact hy) w hw).mono fun v m ⟨hv, hm⟩ => ⟨hv, ?_⟩)).mono fin
          rw [hS.hXc] at hm; exact hm.is
        · by_cases hz0 : z = 0 ∧ y = i
          · obtain ⟨rfl, rfl⟩ := hz0
            refine (sWrite_ack _ _ _ _ _ _ _ _ y a w (isBox S.c) hww h hf ((boxAck S.X hS.hX y hiX w).mono fun v m ⟨hv, hm⟩ => ⟨⟨_, hv⟩, ?_⟩)).mono fin
            rw [hS.hXc] at hm; exact hm.is
          · exact (sWrite_mail_no _ _ _ _ _ _ _ i a w y z (by omega) (by omega) h).mono fun v m ⟨hv, hm⟩ => ⟨⟨_, hv⟩, S, Nxt.refl hS, hm⟩
      · have ho := kOwner S.c S.k S.ow hS.hk.2 y hy (by have := hS.how y; have := hS.hc; omega)
        by_cases hoi : S.ow y = (i : Int) + 1
        · have e : S.ow y - 1 = (i : Int) := by omega
          rw [e] at ho
          refine (sWrite_lock _ _ _ _ _ _ _ _ _ i _ w y 0 hww h ho hf (kFree S.c S.k S.ow hS.hc.2 hS.hk.2 i y hi hy hoi)).mono fun v m ⟨hv, hm⟩ => ⟨⟨_, hv⟩, _, (hS.free y).trans ((hS.free y).1.fen i hi), hm⟩
        · exact (sWrite_lock_no _ _ _ _ _ _ _ i _ w y 0 _ hww h (by omega) ho).mono fun v m ⟨hv, hm⟩ => ⟨⟨_, hv⟩, S, Nxt.refl hS, hm⟩
      · exact (sWrite_gate _ _ _ _ _ _ _ i _ w y 0 h).mono fun v m ⟨hv, hm⟩ => ⟨⟨_, hv⟩, S, Nxt.refl hS, hm⟩
    · have hww := wordW w
      have hne : w ≠ w % 65536 := by omega
      rcases hx with ⟨rfl, rfl, rfl, hz⟩ | ⟨rfl, hy, hz⟩ | ⟨rfl, hy, rfl, rfl⟩ | ⟨rfl, hy, rfl, rfl⟩
      · exact (sWrite_arg1 _ _ _ _ _ _ _ i _ w _ _ _ _ (by omega) hww hne h).mono fun v m ⟨hv, hm⟩ => ⟨⟨_, hv⟩, S, Nxt.refl hS, hm⟩
      · by_cases hz2 : z = 2 ∨ (z = 0 ∧ y = i)
        · exact (sWrite_arg2 _ _ _ _ _ _ _ i a w _ y z (by omega) hww hne h).mono fun v m ⟨hv, hm⟩ => ⟨⟨_, hv⟩, S, Nxt.refl hS, hm⟩
        · exact (sWrite_mail_no _ _ _ _ _ _ _ i a w y z (by omega) (by omega) h).mono fun v m ⟨hv, hm⟩ => ⟨⟨_, hv⟩, S, Nxt.refl hS, hm⟩
      · exact (sWrite_arg1 _ _ _ _ _ _ _ i _ w _ _ _ _ (by omega) hww hne h).mono fun v m ⟨hv, hm⟩ => ⟨⟨_, hv⟩, S, Nxt.refl hS, hm⟩
      · exact (sWrite_gate _ _ _ _ _ _ _ i _ w y 0 h).mono fun v m ⟨hv, hm⟩ => ⟨⟨_, hv⟩, S, Nxt.refl hS, hm⟩

theorem sSwap_tot (S : SocS) (hS : S.ok) (j a w : Int) (ha : a ≤ 9223372036854775807) : Tot S n_soc_Soc_Swap [.ptr 0 0, .dv (.int .i64 j), .dv (.int .i64 a), .dv (.int .i64 w)] Two := by
  rcases at_cases S hS j a ha with ⟨e, he, h⟩ | ⟨i, rfl, hi, hh, x, y, z, h, hx⟩
  · exact (sSwap_no _ _ _ _ _ _ _ j a w e he h).mono fun v m ⟨hv, hm⟩ => ⟨⟨_, _, hv⟩, S, Nxt.refl hS, hm⟩
  · have hiB : i < S.B.cores := by rw [hS.hBc]; exact hi
    by_cases hx1 : x = 1
    · subst hx1
      obtain ⟨rfl, rfl, hz⟩ : y = 0 ∧ a = z ∧ z < S.n := by omega
      have hzB : z < S.B.n := by rw [hS.hBn]; exact hz
      by_cases hw : 0 ≤ w ∧ w ≤ 65535
      · obtain ⟨u, rfl⟩ : ∃ u : Nat, w = u := ⟨w.toNat, by omega⟩
        refine (sSwap_ram _ _ _ _ _ _ _ _ i z u 0 z _ _ h (busSwap S.B hS.hB i z u hiB hzB (by omega))).mono fun v m ⟨hv, hm⟩ => ⟨⟨_, _, hv⟩, { S with B := S.B.upd (rput (rputs S.B.r (S.B.bufs i)) z u) i [] }, ?_, hm⟩
        refine hS.setB _ (S.B.swap_ok hS.hB i z u hiB (by omega)) rfl rfl fun t ht hht => ?_
        show (if t = i then [] else S.B.bufs t) = []
        split
        · rfl
        · exact (hS.hhd t ht hht).1
      · exact (sSwap_ram _ _ _ _ _ _ _ _ i z w 0 z _ _ h (busSwap_no S.B hS.hB i z w hiB hzB hw)).mono fun v m ⟨hv, hm⟩ => ⟨⟨_, _, hv⟩, S, Nxt.refl hS, hm⟩
    · exact (sSwap_kind _ _ _ _ _ _ _ i a w x y z (by omega) h).mono fun v m ⟨hv, hm⟩ => ⟨⟨_, _, hv⟩, S, Nxt.refl hS, hm⟩

end Go.Proofs.YtiaceoomiflgcaaGreat

end

section
namespace Go.Proofs.YtiaceoomiflgcaaGreat
open Go.V
set_option linter.unusedVariables false
set_option linter.unusedSimpArgs false
set_option maxRecDepth 100000
set_option maxHeartbeats 8000000

theorem sFence_tot (S : SocS) (hS : S.ok) (j : Int) : Tot S n_soc_Soc_Fence [.ptr 0 0, .dv (.int .i64 j)] Two := by
  by_cases hj : 0 ≤ j ∧ j < S.c
  · obtain ⟨i, rfl⟩ : ∃ i : Nat, j = i := ⟨j.toNat, by omega⟩
    have hi : i < S.c := by omega
    have h1 := gEpoch_in S.c S.ep S.hd hS.hc.2 i hi
    have h2 := gUp_in S.c S.ep S.hd hS.hc.2 i hi
    cases hh : S.hd i with
    | true => rw [hh] at h2; exact (sFence_off _ _ _ _ _ _ _ i _ h1 h2).mono fun v m ⟨hv, hm⟩ => ⟨⟨_, _, hv⟩, S, Nxt.refl hS, hm⟩
    | false => rw [hh] at h2; exact (sFence_w _ _ _ _ _ _ _ _ i _ _ (busFence S.B hS.hB i (by rw [hS.hBc]; exact hi)) h1 h2).mono fun v m ⟨hv, hm⟩ => ⟨⟨_, _, hv⟩, _, hS.fen i hi, hm⟩
  · exact (sFence_core _ _ _ _ _ _ _ j _ (gEpoch_out S.c S.ep S.hd hS.hc.2 j hj)).mono fun v m ⟨hv, hm⟩ => ⟨⟨_, _, hv⟩, S, Nxt.refl hS, hm⟩

theorem sDrain_tot (S : SocS) (hS : S.ok) (j : Int) : Tot S n_soc_Soc_Drain [.ptr 0 0, .dv (.int .i64 j)] (fun v => ∃ b e, v = .tup [.dv (.bool b), .dv (.int .i64 e)]) := by
  by_cases hj : 0 ≤ j ∧ j < S.c
  · obtain ⟨i, rfl⟩ : ∃ i : Nat, j = i := ⟨j.toNat, by omega⟩
    have hi : i < S.c := by omega
    have hiB : i < S.B.cores := by rw [hS.hBc]; exact hi
    refine (sDrain_w _ _ _ _ _ _ _ _ i _ _ (busDrain S.B hS.hB i hiB)).mono fun v m ⟨hv, hm⟩ => ⟨⟨_, _, hv⟩, { S with B := S.B.upd (rput1 S.B.r (S.B.bufs i)) i (S.B.bufs i).tail }, ?_, hm⟩
    refine hS.setB _ (S.B.drain_ok hS.hB i hiB) rfl rfl fun t ht hht => ?_
    show (if t = i then (S.B.bufs i).tail else S.B.bufs t) = []
    split
    · rename_i e; subst e; rw [(hS.hhd t ht hht).1]; rfl
    · exact (hS.hhd t ht hht).1
  · exact (sDrain_w _ _ _ _ _ _ _ _ j _ _ (busDrain_no S.B hS.hB j (by rw [hS.hBc]; exact hj))).mono fun v m ⟨hv, hm⟩ => ⟨⟨_, _, hv⟩, S, Nxt.refl hS, hm⟩

/-- A core is held: its stores are lost, its locks free. -/
theorem sHold_in (S : SocS) (hS : S.ok) (i : Nat) (hi : i < S.c) (hh : S.hd i = false) :
    CallOK (O := Ob) PR n_soc_Soc_Hold [.ptr 0 0, .dv (.int .i64 i)] [.obj (socO S)] fun v m => v = .dv (.int .i64 0) ∧ ∃ S', Nxt S S' ∧ S'.ep = S.ep ∧ S'.hd i = true ∧ (S'.ow = fun t => if S.ow t = (i : Int) + 1 then 0 else S.ow t) ∧ m = [.obj (socO S')] := by
  have hiB : i < S.B.cores := by rw [hS.hBc]; exact hi
  have hiX : i < S.X.cores := by rw [hS.hXc]; exact hi
  refine (sHold_x _ _ _ _ _ _ _ _ _ _ i (isBox S.c) (gHold_in S.c S.ep S.hd hS.hc.2 i hi hh) ((busLose S.B hS.hB i hiB).mono fun v m ⟨hv, hm⟩ => ⟨⟨_, hv⟩, hm⟩)
    ((boxReset S.X hS.hX i hiX).mono fun v m ⟨hv, hm⟩ => ⟨⟨_, hv⟩, by rw [hS.hXc] at hm; exact hm.is⟩)
    (kRelease S.c S.k S.ow (fun t => if S.ow t = (i : Int) + 1 then 0 else S.ow t) hS.hc.2 hS.hk.2 i hi fun _ _ => rfl)).mono fun v m ⟨hv, X, ⟨Z, h1, h2, e⟩, hm⟩ => ⟨hv, ?_⟩
  subst e
  refine ⟨⟨S.c, S.n, S.k, S.B.upd S.B.r i [], Z, fun t => if S.ow t = (i : Int) + 1 then 0 else S.ow t, S.ep, fun t => if t = i then true else S.hd t⟩, ⟨⟨hS.hc, hS.hn, hS.hk, S.B.lose_ok hS.hB i hiB, hS.hBc, hS.hBn, h1, h2, fun t => ?_, hS.hep, fun t ht hht => ?_⟩, rfl, rfl, rfl⟩, rfl, if_pos rfl, rfl, hm⟩
  · show 0 ≤ (if S.ow t = (i : Int) + 1 then 0 else S.ow t) ∧ (if S.ow t = (i : Int) + 1 then 0 else S.ow t) ≤ (S.c : Int)
    split
    · omega
    · exact hS.how t
  · have hht : (if t = i then true else S.hd t) = true := hht
    have ht : t < S.c := ht
    refine ⟨?_, fun u => ?_⟩
    · show (if t = i then [] else S.B.bufs t) = []
      split
      · rfl
      · rename_i hne; rw [if_neg hne] at hht; exact (hS.hhd t ht hht).1
    · show (if S.ow u = (i : Int) + 1 then 0 else S.ow u) ≠ (t : Int) + 1
      split
      · omega
      · rename_i hne
        by_cases hti : t = i
        · subst hti; exact hne
        · rw [if_neg hti] at hht; exact (hS.hhd t ht hht).2 u

theorem sHold_busy (S : SocS) (hS : S.ok) (i : Nat) (hi : i < S.c) (hh : S.hd i = true) :
    CallOK (O := Ob) PR n_soc_Soc_Hold [.ptr 0 0, .dv (.int .i64 i)] [.obj (socO S)] fun v m => v = .dv (.int .i64 11) ∧ m = [.obj (socO S)] :=
  sHold_no _ _ _ _ _ _ _ i 11 (by omega) (gHold_no S.c S.ep S.hd hS.hc.2 i hi hh)

theorem sHold_tot (S : SocS) (hS : S.ok) (j : Int) : Tot S n_soc_Soc_Hold [.ptr 0 0, .dv (.int .i64 j)] One := by
  by_cases hj : 0 ≤ j ∧ j < S.c
  · obtain ⟨i, rfl⟩ : ∃ i : Nat, j = i := ⟨j.toNat, by omega⟩
    have hi : i < S.c := by omega
    cases hh : S.hd i with
    | true => exact (sHold_busy S hS i hi hh).mono fun v m ⟨hv, hm⟩ => ⟨⟨_, hv⟩, S, Nxt.refl hS, hm⟩
    | false => exact (sHold_in S hS i hi hh).mono fun v m ⟨hv, S', h1, _, _, _, h2⟩ => ⟨⟨_, hv⟩, S', h1, h2⟩
  · exact (sHold_no _ _ _ _ _ _ _ j 3 (by omega) (gHold_out S.c S.ep S.hd hS.hc.2 j hj)).mono fun v m ⟨hv, hm⟩ => ⟨⟨_, hv⟩, S, Nxt.refl hS, hm⟩

end Go.Proofs.YtiaceoomiflgcaaGreat

end

section
namespace Go.Proofs.YtiaceoomiflgcaaGreat
open Go.V
set_option linter.unusedVariables false
set_option linter.unusedSimpArgs false
set_option maxRecDepth 100000
set_option maxHeartbeats 8000000

theorem ok_Add1 (x : Int) (hx : 0 ≤ x ∧ x ≤ 65535) : CallOK (O := Ob) PR n_wrap_Add [.dv (.int .i64 x), .dv (.int .i64 1)] [] fun v m => v = .dv (.int .i64 ((x + 1) % 65536)) ∧ m = [] := by
  have h1 := word_in x hx
  have h2 := word_in 1 (by omega)
  have h3 := wordW (x + 1)
  unfold WordW at h3
  obtain ⟨y, e⟩ : ∃ y, y = x + 1 := ⟨_, rfl⟩
  rw [← e] at h3
  obtain ⟨z, e2⟩ : ∃ z, z = (x + 1) % 65536 := ⟨_, rfl⟩
  rw [← e2]
  rw [e, ← e2, ← e] at h3
  have ey : IntKind.i64.wrap (x + 1) = y := by rw [w64_in (by omega), e]
  clear e e2
  refine fn_walkv mixed fn_wrap_Add (Ent.refl _ _) fun bin cmp un conv bnot beq band sel isel ofN toN inb nz nneg lt le room' slb add sub sbin scmp slen sget ssub addk pc pb pi pf ps mkok min_ ig aeq P hP hA hF Q hQ => ?_
  have hs : bin .add .i64 x 1 = y := by simp only [hF]; exact ey
  cbv
  repeat' first
    | (refine call_pure hP code_wrap_Word (h1) ?_ ?_; (focus (cbv; (try simp); done)); rintro _ rfl; cbv)
    | (refine call_pure hP code_wrap_Word (h2) ?_ ?_; (focus (cbv; (try simp); done)); rintro _ rfl; cbv)
    | ((rw [hs]); cbv)
    | (refine call_pure hP code_wrap_Word (h3) ?_ ?_; (focus (cbv; (try simp); done)); rintro _ rfl; cbv)
    | (refine Chk.mk trivial ?_; cbv)
    | (refine bc_true (by first | assumption | (simp (disch := omega) only [hF, natc, w64_in, shs]; first | done | assumption | omega | (simp only [natc] at *; omega))) ?_; cbv)
    | (refine bc_false (by first | assumption | (simp (disch := omega) only [hF, natc, w64_in, shs]; first | done | assumption | omega | (simp only [natc] at *; omega))) ?_; cbv)
    | (refine bc_split (fun h => ?_) (fun h => ?_) <;> (try simp (disch := omega) only [hF, natc, w64_in, shs] at h) <;> cbv)
  subst hQ; exact leaf_data rfl rfl ⟨rfl, rfl⟩

/-- A core is started: its epoch is one more. -/
def SocS.started (S : SocS) (j : Nat) : SocS := { S with ep := fun i => if i = j then (S.ep j + 1) % 65536 else S.ep i, hd := fun i => if i = j then false else S.hd i }

theorem SocS.ok.started {S : SocS} (hS : S.ok) (j : Nat) : Nxt S (S.started j) := by
  refine ⟨⟨hS.hc, hS.hn, hS.hk, hS.hB, hS.hBc, hS.hBn, hS.hX, hS.hXc, hS.how, fun i => ?_, fun i hi hh => ?_⟩, rfl, rfl, rfl⟩
  · show 0 ≤ (if i = j then (S.ep j + 1) % 65536 else S.ep i) ∧ (if i = j then (S.ep j + 1) % 65536 else S.ep i) ≤ 65535
    split
    · omega
    · exact hS.hep i
  · have hh : (if i = j then false else S.hd i) = true := hh
    by_cases hij : i = j
    · rw [if_pos hij] at hh; cases hh
    · rw [if_neg hij] at hh; exact hS.hhd i hi hh

theorem sStart_in (S : SocS) (hS : S.ok) (i : Nat) (hi : i < S.c) (hh : S.hd i = true) :
    CallOK (O := Ob) PR n_soc_Soc_Start [.ptr 0 0, .dv (.int .i64 i)] [.obj (socO S)] fun v m => v = .dv (.int .i64 0) ∧ m = [.obj (socO (S.started i))] :=
  sStart_w _ _ _ _ _ _ _ _ i 0 (gStart_in S.c S.ep S.hd hS.hc.2 i hi hh _ (ok_Add1 (S.ep i) (hS.hep i)))

theorem sStart_idle (S : SocS) (hS : S.ok) (i : Nat) (hi : i < S.c) (hh : S.hd i = false) :
    CallOK (O := Ob) PR n_soc_Soc_Start [.ptr 0 0, .dv (.int .i64 i)] [.obj (socO S)] fun v m => v = .dv (.int .i64 13) ∧ m = [.obj (socO S)] :=
  sStart_w _ _ _ _ _ _ _ _ i 13 (gStart_no S.c S.ep S.hd hS.hc.2 i hi hh)

theorem sStart_tot (S : SocS) (hS : S.ok) (j : Int) : Tot S n_soc_Soc_Start [.ptr 0 0, .dv (.int .i64 j)] One := by
  by_cases hj : 0 ≤ j ∧ j < S.c
  · obtain ⟨i, rfl⟩ : ∃ i : Nat, j = i := ⟨j.toNat, by omega⟩
    have hi : i < S.c := by omega
    cases hh : S.hd i with
    | true => exact (sStart_in S hS i hi hh).mono fun v m ⟨hv, hm⟩ => ⟨⟨_, hv⟩, _, hS.started i, hm⟩
    | false => exact (sStart_idle S hS i hi hh).mono fun v m ⟨hv, hm⟩ => ⟨⟨_, hv⟩, S, Nxt.refl hS, hm⟩
  · exact (sStart_w _ _ _ _ _ _ _ _ j 3 (gStart_out S.c S.ep S.hd hS.hc.2 j hj)).mono fun v m ⟨hv, hm⟩ => ⟨⟨_, hv⟩, S, Nxt.refl hS, hm⟩

/-- A new soc, or none. -/
theorem sNew_ok (c n k mo : Int) (hc : 1 ≤ c ∧ c ≤ 8) (hn : 1 ≤ n ∧ n ≤ 65536) (hk : 1 ≤ k ∧ k ≤ 16) (hm : 1 ≤ mo ∧ mo ≤ 16) :
    CallOK (O := Ob) PR n_soc_New [.agg [.dv (.int .i64 c), .dv (.int .i64 n), .dv (.int .i64 k)], .dv (.int .i64 mo)] []
      fun v m => v = .tup [.ptr 0 0, .dv (.int .i64 0)] ∧ ∃ S : SocS, S.ok ∧ (S.c : Int) = c ∧ (S.n : Int) = n ∧ (S.k : Int) = k ∧ S.ow = (fun _ => 0) ∧ S.hd = (fun _ => false) ∧ S.ep = (fun _ => 0) ∧ m = [.obj (socO S)] := by
  obtain ⟨c, rfl⟩ : ∃ i : Nat, c = i := ⟨c.toNat, by omega⟩
  obtain ⟨n, rfl⟩ : ∃ i : Nat, n = i := ⟨n.toNat, by omega⟩
  obtain ⟨k, rfl⟩ : ∃ i : Nat, k = i := ⟨k.toNat, by omega⟩
  have hc' : 1 ≤ c ∧ c ≤ 8 := by omega
  have hn' : 1 ≤ n ∧ n ≤ 65536 := by omega
  have hk' : 1 ≤ k ∧ k ≤ 16 := by omega
  refine (sNew_w c n k mo _ _ _ (isBox c) (busNew n c mo (by omega) (by omega) hm) (right_in c n k hc hn hk) ((boxNew c (by omega)).mono fun v m ⟨hv, hm⟩ => ⟨hv, hm.is⟩) (kNew c k (by omega) (by omega)) (gNew c (by omega))).mono
    fun v m ⟨hv, X, ⟨Z, h1, h2, e⟩, hmm⟩ => ⟨hv, ⟨c, n, k, BusS.new n c mo, Z, fun _ => 0, fun _ => 0, fun _ => false⟩, ⟨hc', hn', hk', BusS.new_ok n c mo hn' hc' hm, rfl, rfl, h1, h2, fun i => ?_, fun i => ?_, fun j _ hh => ?_⟩, rfl, rfl, rfl, rfl, rfl, rfl, by subst e; exact hmm⟩
  · show (0 : Int) ≤ 0 ∧ (0 : Int) ≤ (c : Int); omega
  · show (0 : Int) ≤ 0 ∧ (0 : Int) ≤ 65535; omega
  · cases hh

theorem sNew_no (c n k mo : Int) (h64 : (-9223372036854775808 ≤ c ∧ c ≤ 9223372036854775807) ∧ (-9223372036854775808 ≤ n ∧ n ≤ 9223372036854775807) ∧ (-9223372036854775808 ≤ k ∧ k ≤ 9223372036854775807))
    (h : ¬ ((1 ≤ c ∧ c ≤ 8) ∧ (1 ≤ n ∧ n ≤ 65536) ∧ (1 ≤ k ∧ k ≤ 16) ∧ 1 ≤ mo ∧ mo ≤ 16)) :
    CallOK (O := Ob) PR n_soc_New [.agg [.dv (.int .i64 c), .dv (.int .i64 n), .dv (.int .i64 k)], .dv (.int .i64 mo)] [] fun v m => v = .tup [.dv .nilp, .dv (.int .i64 2)] ∧ m = [] := by
  by_cases hb : (1 ≤ c ∧ c ≤ 8) ∧ (1 ≤ n ∧ n ≤ 65536) ∧ 1 ≤ mo ∧ mo ≤ 16
  · have hk : ¬ (1 ≤ k ∧ k ≤ 16) := by omega
    obtain ⟨hc, hn, hm⟩ := hb
    obtain ⟨c, rfl⟩ : ∃ i : Nat, c = i := ⟨c.toNat, by omega⟩
    obtain ⟨n, rfl⟩ : ∃ i : Nat, n = i := ⟨n.toNat, by omega⟩
    refine sNew_no2 c n k mo _ (busNew n c mo (by omega) (by omega) hm) ((ok_Right c n k).mono fun v m ⟨hv, hm⟩ => ⟨?_, hm⟩)
    rw [hv]
    congr 2
    refine decide_eq_false fun hh => hk ?_
    by_cases hlo : -9223372036854775807 ≤ k
    · rw [w64_in (n := k - 1) (by omega)] at hh; omega
    · have : k = -9223372036854775808 := by omega
      subst this
      have e : IntKind.i64.wrap (-9223372036854775808 - 1) = 9223372036854775807 := by decide
      rw [e] at hh; omega
  · exact sNew_no1 c n k mo (busNew_no c n mo hb)

end Go.Proofs.YtiaceoomiflgcaaGreat

end

section
namespace Go.Proofs.YtiaceoomiflgcaaGreat
open Go.V
set_option linter.unusedVariables false
set_option linter.unusedSimpArgs false
set_option maxRecDepth 100000
set_option maxHeartbeats 8000000

def Nx (S : SocS) (x : Ob) : Prop := ∃ S', Nxt S S' ∧ x = socO S'
def TotO (P : Ob → Prop) (x : Ob) (f : FuncId) (args : List SV) (R : SV → Prop) : Prop := CallOK (O := Ob) PR f args [.obj x] fun v m => R v ∧ ∃ y, P y ∧ m = [.obj y]
theorem Tot.o {S : SocS} {f : FuncId} {args : List SV} {R : SV → Prop} (h : Tot S f args R) : TotO (Nx S) (socO S) f args R :=
  h.mono fun v m ⟨hv, S', h1, h2⟩ => ⟨hv, _, ⟨S', h1, rfl⟩, h2⟩

theorem leaf_o {v : SV} {y : Ob} {rest : List (Chunk Ob)} {Q : SV → List (Chunk Ob) → Prop} (hu : VLe [0] v v) (hq : Q v [.obj y]) : ∃ r' m', Ent 1 ⟨[v], .obj y :: rest⟩ ⟨[r'], m'⟩ ∧ Q r' m' :=
  ⟨v, [.obj y], Ent.ren [0] rfl rfl ⟨rfl, trivial⟩ ⟨hu, trivial⟩, hq⟩

theorem ok_Do_w (x : Ob) (P : Ob → Prop) (k c a w : Int) (h0 : TotO P x n_soc_Soc_Read [.ptr 0 0, .dv (.int .i64 c), .dv (.int .i64 a)] Two) (h1 : TotO P x n_soc_Soc_Write [.ptr 0 0, .dv (.int .i64 c), .dv (.int .i64 a), .dv (.int .i64 w)] One)
    (h2 : TotO P x n_soc_Soc_Fence [.ptr 0 0, .dv (.int .i64 c)] Two) (h3 : TotO P x n_soc_Soc_Drain [.ptr 0 0, .dv (.int .i64 c)] fun v => ∃ b e, v = .tup [.dv (.bool b), .dv (.int .i64 e)])
    (h4 : TotO P x n_soc_Soc_Swap [.ptr 0 0, .dv (.int .i64 c), .dv (.int .i64 a), .dv (.int .i64 w)] Two) (h5 : TotO P x n_soc_Soc_Hold [.ptr 0 0, .dv (.int .i64 c)] One) (h6 : TotO P x n_soc_Soc_Start [.ptr 0 0, .dv (.int .i64 c)] One) :
    TotO P x n_law12_Do [.ptr 0 0, .agg [.dv (.int .i64 k), .dv (.int .i64 c), .dv (.int .i64 a), .dv (.int .i64 w)]] Two := by
  unfold TotO Two One at *
  refine fn_walkv mixed fn_law12_Do (Ent.refl _ _) fun bin cmp un conv bnot beq band sel isel ofN toN inb nz nneg lt le room' slb add sub sbin scmp slen sget ssub addk pc pb pi pf ps mkok min_ ig aeq P hP hA hF Q hQ => ?_
  cbv
  repeat' first
    | (refine call_at hP [0] code_soc_Soc_Read (h0) rfl ?_ ?_ ?_; (focus ((repeat' (first | exact trivial | exact rfl | (intro _ _ _ _; exact rfl) | refine And.intro ?_ ?_)); done)); (focus (cbv; (try simp); done)); rintro _ _ ⟨⟨n, e, rfl⟩, y, hy, rfl⟩ _; cbv)
    | (refine call_at hP [0] code_soc_Soc_Write (h1) rfl ?_ ?_ ?_; (focus ((repeat' (first | exact trivial | exact rfl | (intro _ _ _ _; exact rfl) | refine And.intro ?_ ?_)); done)); (focus (cbv; (try simp); done)); rintro _ _ ⟨⟨e, rfl⟩, y, hy, rfl⟩ _; cbv)
    | (refine call_at hP [0] code_soc_Soc_Fence (h2) rfl ?_ ?_ ?_; (focus ((repeat' (first | exact trivial | exact rfl | (intro _ _ _ _; exact rfl) | refine And.intro ?_ ?_)); done)); (focus (cbv; (try simp); done)); rintro _ _ ⟨⟨n, e, rfl⟩, y, hy, rfl⟩ _; cbv)
    | (refine call_at hP [0] code_soc_Soc_Drain (h3) rfl ?_ ?_ ?_; (focus ((repeat' (first | exact trivial | exact rfl | (intro _ _ _ _; exact rfl) | refine And.intro ?_ ?_)); done)); (focus (cbv; (try simp); done)); rintro _ _ ⟨⟨b, e, rfl⟩, y, hy, rfl⟩ _; cbv)
    | (refine call_at hP [0] code_soc_Soc_Swap (h4) rfl ?_ ?_ ?_; (focus ((repeat' (first | exact trivial | exact rfl | (intro _ _ _ _; exact rfl) | refine And.intro ?_ ?_)); done)); (focus (cbv; (try simp); done)); rintro _ _ ⟨⟨n, e, rfl⟩, y, hy, rfl⟩ _; cbv)
    | (refine call_at hP [0] code_soc_Soc_Hold (h5) rfl ?_ ?_ ?_; (focus ((repeat' (first | exact trivial | exact rfl | (intro _ _ _ _; exact rfl) | refine And.intro ?_ ?_)); done)); (focus (cbv; (try simp); done)); rintro _ _ ⟨⟨e, rfl⟩, y, hy, rfl⟩ _; cbv)
    | (refine call_at hP [0] code_soc_Soc_Start (h6) rfl ?_ ?_ ?_; (focus ((repeat' (first | exact trivial | exact rfl | (intro _ _ _ _; exact rfl) | refine And.intro ?_ ?_)); done)); (focus (cbv; (try simp); done)); rintro _ _ ⟨⟨e, rfl⟩, y, hy, rfl⟩ _; cbv)
    | (refine Chk.mk trivial ?_; cbv)
    | (refine bc_true (by first | assumption | (simp (disch := omega) only [hF, natc, w64_in, shs]; first | done | assumption | omega | (simp only [natc] at *; omega))) ?_; cbv)
    | (refine bc_false (by first | assumption | (simp (disch := omega) only [hF, natc, w64_in, shs]; first | done | assumption | omega | (simp only [natc] at *; omega))) ?_; cbv)
    | (refine bc_split (fun h => ?_) (fun h => ?_) <;> (try simp (disch := omega) only [hF, natc, w64_in, shs] at h) <;> cbv)
  all_goals
    subst hQ
    exact leaf_o rfl ⟨⟨_, _, rfl⟩, y, hy, rfl⟩

theorem ok_Do (S : SocS) (hS : S.ok) (k c a w : Int) (ha : a ≤ 9223372036854775807) : Tot S n_law12_Do [.ptr 0 0, .agg [.dv (.int .i64 k), .dv (.int .i64 c), .dv (.int .i64 a), .dv (.int .i64 w)]] Two :=
  (ok_Do_w (socO S) (Nx S) k c a w (sRead_tot S hS c a ha).o (sWrite_tot S hS c a w ha).o (sFence_tot S hS c).o (sDrain_tot S hS c).o (sSwap_tot S hS c a w ha).o (sHold_tot S hS c).o (sStart_tot S hS c).o).mono
    fun v m ⟨hv, y, ⟨S', h1, e⟩, hm⟩ => ⟨hv, S', h1, by rw [hm, e]⟩

end Go.Proofs.YtiaceoomiflgcaaGreat

end

section
namespace Go.Proofs.YtiaceoomiflgcaaGreat
open Go.V
set_option linter.unusedVariables false
set_option linter.unusedSimpArgs false
set_option maxRecDepth 100000
set_option maxHeartbeats 8000000

theorem clone_i (n : Nat) (r : Nat → Int) (hn : n ≤ 65536) : CallOK (O := Ob) PR n_slices_Clone_Sint_int [.vec 0] [.vec n 1 fun i _ => .dv (.int .i64 (r i))]
    fun v m => v = .vec 1 ∧ m = [.vec n 1 fun i _ => .dv (.int .i64 (r i)), .vec n 1 fun i _ => .dv (.int .i64 (r i))] := by
  refine fn_walkv mixed fn_slices_Clone_Sint_int (Ent.refl _ _) fun bin cmp un conv bnot beq band sel isel ofN toN inb nz nneg lt le room' slb add sub sbin scmp slen sget ssub addk pc pb pi pf ps mkok min_ ig aeq P hP hA hF Q hQ => ?_
  have hrm : room' (add 0 n) 8 := by simp [hF, maxN]; omega
  cbv
  repeat' first
    | ((refine Chk.mk hrm ?_); cbv)
    | (refine Chk.mk trivial ?_; cbv)
    | (refine bc_true (by first | assumption | (simp (disch := omega) only [hF, natc, w64_in, shs]; first | done | assumption | omega | (simp only [natc] at *; omega))) ?_; cbv)
    | (refine bc_false (by first | assumption | (simp (disch := omega) only [hF, natc, w64_in, shs]; first | done | assumption | omega | (simp only [natc] at *; omega))) ?_; cbv)
    | (refine bc_split (fun h => ?_) (fun h => ?_) <;> (try simp (disch := omega) only [hF, natc, w64_in, shs] at h) <;> cbv)
    | (refine IdxVC.mk (by simp (disch := omega) only [hF, natc, w64_in, shs]; first | done | omega | (simp only [natc] at *; omega)) (fun kx hk hk2 => ?_); simp (disch := omega) only [hF, natc, w64_in, shs] at hk; (try obtain rfl : kx = 0 := hk); cbv)
    | (refine Chk.mk (by simp (disch := omega) only [maxN, hF, natc, w64_in, shs]; first | done | assumption | omega | (simp only [natc] at *; omega)) ?_; cbv)
    | (intro (hmx : _ ≤ maxN); replace hmx : _ ≤ 17592186044416 := hmx; cbv)
    | (intro _; cbv)
  · have hn0 : n = 0 := by
      rcases Nat.eq_zero_or_pos n with h0 | h0
      · exact h0
      · simp_all
    subst hQ
    refine ⟨.vec 1, [.vec n 1 fun i _ => .dv (.int .i64 (r i)), .vec n 1 fun i _ => .dv (.int .i64 (r i))], ?_, rfl, rfl⟩
    exact (Ent.nilv 0 1 (fun i _ => .dv (.int .i64 (r i))) rfl).trans (Ent.ren [0, 1] rfl rfl ⟨⟨rfl, rfl, fun _ _ _ _ => rfl⟩, ⟨hn0.symm, rfl, fun _ _ _ _ => rfl⟩, trivial⟩ ⟨rfl, trivial⟩)
  · subst hQ
    refine ⟨.vec 1, [.vec n 1 fun i _ => .dv (.int .i64 (r i)), .vec n 1 fun i _ => .dv (.int .i64 (r i))], ?_, rfl, rfl⟩
    refine Ent.ren [0, 2] rfl rfl ⟨⟨rfl, rfl, fun _ _ _ _ => rfl⟩, ⟨by simp only [hF]; omega, rfl, fun i f hi hf => ?_⟩, trivial⟩ ⟨rfl, trivial⟩
    obtain rfl : f = 0 := by omega
    unfold appAt
    rw [if_neg (Nat.not_lt_zero _)]
    simp only [hF, Nat.sub_zero]
    rfl

theorem ok_rRam (n : Nat) (r : Nat → Int) (hn : n ≤ 65536) : CallOK (O := Ob) PR n_sram_Ram_Clone [.ptr 0 0] [.obj (rOb n r)]
    fun v m => v = .ptr 1 0 ∧ m = [.obj (rOb n r), .obj (rOb n r)] := by
  have hc := clone_i n r hn
  unfold rOb rmem
  refine fn_walkv mixed fn_sram_Ram_Clone Ent.opn1 fun bin cmp un conv bnot beq band sel isel ofN toN inb nz nneg lt le room' slb add sub sbin scmp slen sget ssub addk pc pb pi pf ps mkok min_ ig aeq P hP hA hF Q hQ => ?_
  cbv
  repeat' first
    | (refine call_at hP [1] code_slices_Clone_Sint_int (hc) rfl ?_ ?_ ?_; (focus ((repeat' (first | exact trivial | exact rfl | (intro _ _ _ _; exact rfl) | refine And.intro ?_ ?_)); done)); (focus (cbv; (try simp); done)); rintro _ _ ⟨rfl, rfl⟩ _; cbv)
    | (refine Chk.mk trivial ?_; cbv)
    | (refine bc_true (by first | assumption | (simp (disch := omega) only [hF, natc, w64_in, shs]; first | done | assumption | omega | (simp only [natc] at *; omega))) ?_; cbv)
    | (refine bc_false (by first | assumption | (simp (disch := omega) only [hF, natc, w64_in, shs]; first | done | assumption | omega | (simp only [natc] at *; omega))) ?_; cbv)
    | (refine bc_split (fun h => ?_) (fun h => ?_) <;> (try simp (disch := omega) only [hF, natc, w64_in, shs] at h) <;> cbv)
    | (refine IdxVC.mk (by simp (disch := omega) only [hF, natc, w64_in, shs]; first | done | omega | (simp only [natc] at *; omega)) (fun kx hk hk2 => ?_); simp (disch := omega) only [hF, natc, w64_in, shs] at hk; (try obtain rfl : kx = 0 := hk); cbv)
    | (refine Chk.mk (by simp (disch := omega) only [maxN, hF, natc, w64_in, shs]; first | done | assumption | omega | (simp only [natc] at *; omega)) ?_; cbv)
    | (intro (hmx : _ ≤ maxN); replace hmx : _ ≤ 17592186044416 := hmx; cbv)
    | (intro _; cbv)
  subst hQ
  refine ⟨.ptr 1 0, [.obj (.mk (rmem n r)), .obj (.mk (rmem n r))], ?_, rfl, rfl⟩
  refine (Ent.cls 0 [1] (rmem n r) rfl rfl ?_).trans ((Ent.cls 3 [2] (rmem n r) rfl rfl ?_).trans (Ent.ren [0, 3] rfl rfl ?_ ⟨rfl, trivial⟩))
  · exact ⟨⟨rfl, trivial⟩, ⟨rfl, rfl, fun _ _ _ _ => rfl⟩, trivial⟩
  · exact ⟨⟨rfl, trivial⟩, ⟨rfl, rfl, fun _ _ _ _ => rfl⟩, trivial⟩
  · exact ⟨rfl, rfl, trivial⟩

end Go.Proofs.YtiaceoomiflgcaaGreat

end

section
namespace Go.Proofs.YtiaceoomiflgcaaGreat
open Go.V
set_option linter.unusedVariables false
set_option linter.unusedSimpArgs false
set_option maxRecDepth 100000
set_option maxHeartbeats 8000000

end Go.Proofs.YtiaceoomiflgcaaGreat

end

section
namespace Go.Proofs.YtiaceoomiflgcaaGreat
open Go.V
set_option linter.unusedVariables false
set_option linter.unusedSimpArgs false
set_option maxRecDepth 100000
set_option maxHeartbeats 8000000

end Go.Proofs.YtiaceoomiflgcaaGreat

end

section
namespace Go.Proofs.YtiaceoomiflgcaaGreat
open Go.V
set_option linter.unusedVariables false
set_option linter.unusedSimpArgs false
set_option maxRecDepth 100000
set_option maxHeartbeats 8000000

def plV (c n k : Int) : SV := .agg [.dv (.int .i64 c), .dv (.int .i64 n), .dv (.int .i64 k)]

def i64 (x : Int) : Prop := -9223372036854775808 ≤ x ∧ x ≤ 9223372036854775807

/-- The calls of a law's list are calls. -/
def okOps (N : Nat) (G : Nat → Nat → DV) : Prop := ∀ t, t < N → ∃ k c a w, a ≤ 9223372036854775807 ∧ G t 0 = .int .i64 k ∧ G t 1 = .int .i64 c ∧ G t 2 = .int .i64 a ∧ G t 3 = .int .i64 w

theorem ok_ops (c n : Int) (k N : Nat) (G : Nat → Nat → DV) (hG : okOps N G) (t : Nat) (ht : t < N) (x : Ob) (hx : ∃ S : SocS, S.ok ∧ (S.c : Int) = c ∧ (S.n : Int) = n ∧ S.k = k ∧ x = socO S) :
    CallOK (O := Ob) PR n_law12_Do [.ptr 0 0, .agg [.dv (G t 0), .dv (G t 1), .dv (G t 2), .dv (G t 3)]] [.obj x] fun v m => Two v ∧ ∃ x, (∃ S : SocS, S.ok ∧ (S.c : Int) = c ∧ (S.n : Int) = n ∧ S.k = k ∧ x = socO S) ∧ m = [.obj x] := by
  obtain ⟨S, hS, hc, hn, hk, rfl⟩ := hx
  obtain ⟨kk, cc, aa, ww, ha, e0, e1, e2, e3⟩ := hG t ht
  rw [e0, e1, e2, e3]
  exact (ok_Do S hS kk cc aa ww ha).mono fun v m ⟨hv, S', h1, hm⟩ => ⟨hv, _, ⟨S', h1.1, by rw [h1.2.1]; exact hc, by rw [h1.2.2.1]; exact hn, h1.2.2.2.trans hk, rfl⟩, hm⟩

end Go.Proofs.YtiaceoomiflgcaaGreat

end

namespace Go.Proofs.YtiaceoomiflgcaaGreat
open Go.V

theorem in64' {n : Int} (h : IntKind.i64.has n) : i64 n := by
  simpa [i64, IntKind.has, IntKind.min, IntKind.max, IntKind.bits, IntKind.signed] using h

theorem plan_of {g : Nat → DV} (h : Ty.hasL [.int .i64, .int .i64, .int .i64] g) : ∃ c n k, i64 c ∧ i64 n ∧ i64 k ∧ (SV.agg [.dv (g 0), .dv (g 1), .dv (g 2)]) = plV c n k := by
  obtain ⟨⟨c, hc, e0⟩, ⟨n, hn, e1⟩, ⟨k, hk, e2⟩, _⟩ := h
  have e0 : g 0 = _ := e0
  have e1 : g 1 = _ := e1
  have e2 : g 2 = _ := e2
  exact ⟨c, n, k, in64' hc, in64' hn, in64' hk, by rw [e0, e1, e2]; rfl⟩

end Go.Proofs.YtiaceoomiflgcaaGreat
