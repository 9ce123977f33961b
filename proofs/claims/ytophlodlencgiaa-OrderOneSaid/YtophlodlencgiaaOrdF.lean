/-
  Walks: the search, with its parts as they are told.
-/
import Derived.Test.YtophlodlencgiaaOrdE
namespace Go.Proofs.Ytophlodlencgiaa
open Go.V

def ic_order_search_from_4 : IC := .seq (.reg [o1 6 (.mov (.c (.dv .nils))), o1 7 (.mov (.c (.dv (.bool false))))]) .ret
def ic_order_search_from_3 : IC := .seq (.seq (.reg [o1 111 (.fldA 1 (.t 4)), o1 112 (.ld .none (.t 111)), o1 14 (.mov (.t 112))]) (.seq (.drw (.take 0 (o1 113 (.mov (.t 14))) (.take 1 (o1 114 (.ld .none (.t 3))) (.take 2 (o1 115 (.nchk (.t 114))) (.take 3 (o1 116 (.fldA 1 (.t 115))) (.take 4 (o1 117 (.ld .none (.t 116))) (.take 5 (o1 118 (.len false (.t 117))) (.take 6 (o1 119 (.bin .lss (.t 113) (.t 118))) (.take 7 (o1 120 (.mov (.t 119))) (.take 8 ⟨(some 121), .ld .none (.t 3), some ((some 120), true)⟩ (.take 9 ⟨(some 122), .nchk (.t 121), some ((some 120), true)⟩ (.take 10 ⟨(some 123), .fldA 0 (.t 122), some ((some 120), true)⟩ (.take 11 ⟨(some 124), .ld .none (.t 123), some ((some 120), true)⟩ (.take 12 ⟨(some 125), .fldA 0 (.t 4), some ((some 120), true)⟩ (.take 13 ⟨(some 126), .ld .none (.t 125), some ((some 120), true)⟩ (.take 14 ⟨(some 127), .ld .none (.t 3), some ((some 120), true)⟩ (.take 15 ⟨(some 128), .nchk (.t 127), some ((some 120), true)⟩ (.take 16 ⟨(some 129), .fldA 1 (.t 128), some ((some 120), true)⟩ (.take 17 ⟨(some 130), .ld .none (.t 129), some ((some 120), true)⟩ (.take 18 ⟨(some 131), .mov (.t 14), some ((some 120), true)⟩ (.take 19 ⟨(some 132), .idxS 8 (.t 130) (.t 131), some ((some 120), true)⟩ (.take 20 ⟨(some 133), .ld (.some 8) (.t 132), some ((some 120), true)⟩ (.alt 21 [18, 14, 15, 16, 17, 19, 20, 12, 13, 1, 2, 3, 4, 5, 0, 6, 7, 8, 9, 10, 11] ⟨(some 134), .call 57 [.t 124, .t 126, .t 133], some ((some 120), true)⟩ (.take 22 (o1 135 (.pick (.t 120) (.t 134) (.c (.dv (.bool false))))) (.take 23 (o1 136 (.mov (.t 135))) (.take 24 ⟨(some 137), .ld .none (.t 3), some ((some 136), true)⟩ (.take 25 ⟨(some 138), .nchk (.t 137), some ((some 136), true)⟩ (.take 26 ⟨(some 139), .fldA 1 (.t 138), some ((some 136), true)⟩ (.take 27 ⟨(some 140), .ld .none (.t 139), some ((some 136), true)⟩ (.take 28 ⟨(some 141), .mov (.t 14), some ((some 136), true)⟩ (.take 29 ⟨(some 142), .bin .add (.t 141) (.c (.dv (.int .i64 1))), some ((some 136), true)⟩ (.take 30 ⟨(some 143), .ld .none (.t 3), some ((some 136), true)⟩ (.take 31 ⟨(some 144), .nchk (.t 143), some ((some 136), true)⟩ (.take 32 ⟨(some 145), .fldA 1 (.t 144), some ((some 136), true)⟩ (.take 33 ⟨(some 146), .ld .none (.t 145), some ((some 136), true)⟩ (.take 34 ⟨(some 147), .mov (.t 14), some ((some 136), true)⟩ (.take 35 ⟨(some 148), .idxS 8 (.t 146) (.t 147), some ((some 136), true)⟩ (.take 36 ⟨(some 149), .ld (.some 8) (.t 148), some ((some 136), true)⟩ (.alt 37 [34, 30, 31, 32, 33, 35, 36, 28, 29, 18, 14, 15, 16, 17, 19, 20, 12, 13, 8, 9, 10, 11, 21, 1, 2, 3, 4, 5, 0, 6, 7, 22, 23, 24, 25, 26, 27] ⟨(some 150), .call 57 [.t 140, .t 142, .t 149], some ((some 136), true)⟩ (.take 38 (o1 151 (.pick (.t 136) (.t 150) (.c (.dv (.bool false))))) .done) .none)))))))))))))))) .none))))))))))))))))))))))) (.cond (.t 151) (.seq (.drw (.take 0 (o1 153 (.mov (.t 10))) (.take 1 (o1 154 (.ld .none (.t 3))) (.take 2 (o1 155 (.nchk (.t 154))) (.take 3 (o1 156 (.fldA 1 (.t 155))) (.take 4 (o1 157 (.ld .none (.t 156))) (.take 5 (o1 158 (.mov (.t 14))) (.take 6 (o1 159 (.idxS 8 (.t 157) (.t 158))) (.take 7 (o1 160 (.ld (.some 8) (.t 159))) (.take 8 (o1 161 (.fldA 0 (.t 4))) (.take 9 (o1 162 (.ld .none (.t 161))) (.take 10 (o1 163 (.mov (.t 14))) (.take 11 (o1 164 (.bin .add (.t 163) (.c (.dv (.int .i64 1))))) (.take 12 (o1 165 (.build [.int .i64 0, .int .i64 0] [(0, (1, .t 162)), (1, (1, .t 164))])) (.take 13 (o1 166 (.ld .none (.t 3))) (.take 14 (o1 167 (.nchk (.t 166))) (.take 15 (o1 168 (.fldA 0 (.t 167))) (.take 16 (o1 169 (.ld .none (.t 168))) (.take 17 (o1 170 (.len false (.t 169))) (.take 18 (o1 171 (.mov (.t 14))) (.take 19 (o1 172 (.bin .add (.t 170) (.t 171))) (.alt 20 [18, 13, 14, 15, 16, 17, 19, 10, 11, 8, 9, 12, 5, 1, 2, 3, 4, 6, 7, 0] (o1 173 (.callv (.t 153) [.t 160, .t 165, .t 172])) (.take 21 (o1 152 (.mov (.t 173))) (.take 22 (o1 174 (.ext (.t 152) 0)) (.take 23 (o1 175 (.ext (.t 152) 1)) (.take 24 (o1 15 (.mov (.t 174))) (.take 25 (o1 16 (.mov (.t 175))) .done))))) .none)))))))))))))))))))))) (.seq (.reg [o1 176 (.mov (.t 16))]) (.cond (.t 176) (.seq (.reg [o1 177 (.mov (.t 15)), o1 6 (.mov (.t 177)), o1 7 (.mov (.c (.dv (.bool true))))]) .ret) .skip))) .skip))) (.cut ic_order_search_from_4)
def ic_order_search_from_2 : IC := .seq (.drw (.take 0 (o1 43 (.ld .none (.t 3))) (.take 1 (o1 44 (.nchk (.t 43))) (.take 2 (o1 45 (.fldA 4 (.t 44))) (.take 3 (o1 46 (.ld .none (.t 45))) (.take 4 (o1 47 (.ld (.some 2) (.t 4))) (.take 5 (o1 48 (.build [] [])) (.alt 6 [5, 4, 0, 1, 2, 3] (o0 (.mup 72 2 (.t 46) (.t 47) (.t 48))) .done .none)))))))) (.seq (.reg [o1 49 (.mkf 55 [.t 3, .t 5]), o1 10 (.mov (.t 49))]) (.seq (.seq (.reg [o1 50 (.fldA 0 (.t 4)), o1 51 (.ld .none (.t 50)), o1 11 (.mov (.t 51))]) (.seq (.drw (.take 0 (o1 52 (.mov (.t 11))) (.take 1 (o1 53 (.ld .none (.t 3))) (.take 2 (o1 54 (.nchk (.t 53))) (.take 3 (o1 55 (.fldA 0 (.t 54))) (.take 4 (o1 56 (.ld .none (.t 55))) (.take 5 (o1 57 (.len false (.t 56))) (.take 6 (o1 58 (.bin .lss (.t 52) (.t 57))) (.take 7 (o1 59 (.mov (.t 58))) (.take 8 ⟨(some 60), .ld .none (.t 3), some ((some 59), true)⟩ (.take 9 ⟨(some 61), .nchk (.t 60), some ((some 59), true)⟩ (.take 10 ⟨(some 62), .fldA 1 (.t 61), some ((some 59), true)⟩ (.take 11 ⟨(some 63), .ld .none (.t 62), some ((some 59), true)⟩ (.take 12 ⟨(some 64), .fldA 1 (.t 4), some ((some 59), true)⟩ (.take 13 ⟨(some 65), .ld .none (.t 64), some ((some 59), true)⟩ (.take 14 ⟨(some 66), .ld .none (.t 3), some ((some 59), true)⟩ (.take 15 ⟨(some 67), .nchk (.t 66), some ((some 59), true)⟩ (.take 16 ⟨(some 68), .fldA 0 (.t 67), some ((some 59), true)⟩ (.take 17 ⟨(some 69), .ld .none (.t 68), some ((some 59), true)⟩ (.take 18 ⟨(some 70), .mov (.t 11), some ((some 59), true)⟩ (.take 19 ⟨(some 71), .idxS 8 (.t 69) (.t 70), some ((some 59), true)⟩ (.take 20 ⟨(some 72), .ld (.some 8) (.t 71), some ((some 59), true)⟩ (.alt 21 [18, 14, 15, 16, 17, 19, 20, 12, 13, 1, 2, 3, 4, 5, 0, 6, 7, 8, 9, 10, 11] ⟨(some 73), .call 57 [.t 63, .t 65, .t 72], some ((some 59), true)⟩ (.take 22 (o1 74 (.pick (.t 59) (.t 73) (.c (.dv (.bool false))))) (.take 23 (o1 75 (.mov (.t 74))) (.take 24 ⟨(some 76), .ld .none (.t 3), some ((some 75), true)⟩ (.take 25 ⟨(some 77), .nchk (.t 76), some ((some 75), true)⟩ (.take 26 ⟨(some 78), .fldA 0 (.t 77), some ((some 75), true)⟩ (.take 27 ⟨(some 79), .ld .none (.t 78), some ((some 75), true)⟩ (.take 28 ⟨(some 80), .mov (.t 11), some ((some 75), true)⟩ (.take 29 ⟨(some 81), .bin .add (.t 80) (.c (.dv (.int .i64 1))), some ((some 75), true)⟩ (.take 30 ⟨(some 82), .ld .none (.t 3), some ((some 75), true)⟩ (.take 31 ⟨(some 83), .nchk (.t 82), some ((some 75), true)⟩ (.take 32 ⟨(some 84), .fldA 0 (.t 83), some ((some 75), true)⟩ (.take 33 ⟨(some 85), .ld .none (.t 84), some ((some 75), true)⟩ (.take 34 ⟨(some 86), .mov (.t 11), some ((some 75), true)⟩ (.take 35 ⟨(some 87), .idxS 8 (.t 85) (.t 86), some ((some 75), true)⟩ (.take 36 ⟨(some 88), .ld (.some 8) (.t 87), some ((some 75), true)⟩ (.alt 37 [34, 30, 31, 32, 33, 35, 36, 28, 29, 18, 14, 15, 16, 17, 19, 20, 12, 13, 8, 9, 10, 11, 21, 1, 2, 3, 4, 5, 0, 6, 7, 22, 23, 24, 25, 26, 27] ⟨(some 89), .call 57 [.t 79, .t 81, .t 88], some ((some 75), true)⟩ (.take 38 (o1 90 (.pick (.t 75) (.t 89) (.c (.dv (.bool false))))) .done) .none)))))))))))))))) .none))))))))))))))))))))))) (.cond (.t 90) (.seq (.drw (.take 0 (o1 92 (.mov (.t 10))) (.take 1 (o1 93 (.ld .none (.t 3))) (.take 2 (o1 94 (.nchk (.t 93))) (.take 3 (o1 95 (.fldA 0 (.t 94))) (.take 4 (o1 96 (.ld .none (.t 95))) (.take 5 (o1 97 (.mov (.t 11))) (.take 6 (o1 98 (.idxS 8 (.t 96) (.t 97))) (.take 7 (o1 99 (.ld (.some 8) (.t 98))) (.take 8 (o1 100 (.mov (.t 11))) (.take 9 (o1 101 (.bin .add (.t 100) (.c (.dv (.int .i64 1))))) (.take 10 (o1 102 (.fldA 1 (.t 4))) (.take 11 (o1 103 (.ld .none (.t 102))) (.take 12 (o1 104 (.build [.int .i64 0, .int .i64 0] [(0, (1, .t 101)), (1, (1, .t 103))])) (.take 13 (o1 105 (.mov (.t 11))) (.alt 14 [13, 10, 11, 8, 9, 12, 5, 1, 2, 3, 4, 6, 7, 0] (o1 106 (.callv (.t 92) [.t 99, .t 104, .t 105])) (.take 15 (o1 91 (.mov (.t 106))) (.take 16 (o1 107 (.ext (.t 91) 0)) (.take 17 (o1 108 (.ext (.t 91) 1)) (.take 18 (o1 12 (.mov (.t 107))) (.take 19 (o1 13 (.mov (.t 108))) .done))))) .none)))))))))))))))) (.seq (.reg [o1 109 (.mov (.t 13))]) (.cond (.t 109) (.seq (.reg [o1 110 (.mov (.t 12)), o1 6 (.mov (.t 110)), o1 7 (.mov (.c (.dv (.bool true))))]) .ret) .skip))) .skip))) (.cut ic_order_search_from_3)))
def ic_order_search_from_1 : IC := .seq (.seq (.drw (.take 0 (o1 34 (.ld .none (.t 3))) (.take 1 (o1 35 (.nchk (.t 34))) (.take 2 (o1 36 (.fldA 4 (.t 35))) (.take 3 (o1 37 (.ld .none (.t 36))) (.take 4 (o1 38 (.ld (.some 2) (.t 4))) (.alt 5 [4, 0, 1, 2, 3] (o1 39 (.mlk 72 2 (.t 37) (.t 38))) (.take 6 (o1 33 (.mov (.t 39))) (.take 7 (o1 40 (.ext (.t 33) 0)) (.take 8 (o1 41 (.ext (.t 33) 1)) (.alt 9 [] (o1 8 (.new [] [])) (.alt 10 [4, 0, 1, 2, 3, 5, 6, 7, 9] (o0 (.st 0 (.t 8) (.t 40))) (.take 11 (o1 9 (.mov (.t 41))) .done) .none) .none)))) (.alt 9 [] (o1 8 (.new [] [])) (.alt 5 [4, 0, 1, 2, 3] (o1 39 (.mlk 72 2 (.t 37) (.t 38))) (.take 6 (o1 33 (.mov (.t 39))) (.take 7 (o1 40 (.ext (.t 33) 0)) (.take 8 (o1 41 (.ext (.t 33) 1)) (.alt 10 [4, 0, 1, 2, 3, 5, 6, 7, 9] (o0 (.st 0 (.t 8) (.t 40))) (.take 11 (o1 9 (.mov (.t 41))) .done) .none)))) .none) .none)))))))) (.seq (.reg [o1 42 (.mov (.t 9))]) (.cond (.t 42) (.seq (.reg [o1 6 (.mov (.c (.dv .nils))), o1 7 (.mov (.c (.dv (.bool false))))]) .ret) .skip))) (.cut ic_order_search_from_2)
def ic_order_search_from : IC := .seq (.reg [o1 3 (.box 1 [.none] (.t 0)), o1 4 (.box 2 [.none, .none] (.t 1)), o1 5 (.box 3 [.none, .none, .none] (.t 2)), o1 6 (.mov (.c (.dv .nils))), o1 7 (.mov (.c (.dv (.bool false))))]) (.seq (.seq (.drw (.take 0 (o1 17 (.ld .none (.t 3))) (.take 1 (o1 18 (.nchk (.t 17))) (.take 2 (o1 19 (.fldA 0 (.t 18))) (.take 3 (o1 20 (.ld .none (.t 19))) (.take 4 (o1 21 (.fldA 0 (.t 4))) (.take 5 (o1 22 (.ld .none (.t 21))) (.alt 6 [4, 5, 0, 1, 2, 3] (o1 23 (.call 54 [.t 20, .t 22])) (.take 7 (o1 24 (.mov (.t 23))) (.take 8 ⟨(some 25), .ld .none (.t 3), some ((some 24), true)⟩ (.take 9 ⟨(some 26), .nchk (.t 25), some ((some 24), true)⟩ (.take 10 ⟨(some 27), .fldA 1 (.t 26), some ((some 24), true)⟩ (.take 11 ⟨(some 28), .ld .none (.t 27), some ((some 24), true)⟩ (.take 12 ⟨(some 29), .fldA 1 (.t 4), some ((some 24), true)⟩ (.take 13 ⟨(some 30), .ld .none (.t 29), some ((some 24), true)⟩ (.alt 14 [12, 13, 4, 5, 0, 1, 2, 3, 6, 7, 8, 9, 10, 11] ⟨(some 31), .call 54 [.t 28, .t 30], some ((some 24), true)⟩ (.take 15 (o1 32 (.pick (.t 24) (.t 31) (.c (.dv (.bool false))))) .done) .none)))))))) .none)))))))) (.cond (.t 32) (.seq (.reg [o1 6 (.mov (.c (.dv .nils))), o1 7 (.mov (.c (.dv (.bool true))))]) .ret) .skip)) (.cut ic_order_search_from_1))
theorem ics_order_search_from : strip ic_order_search_from = ir_order_search_from := by kernel_rfl

theorem pair_law : WideMaps.KeyLaw PR 77 := deep_law_laid (m := 2) (by kernel_rfl) (by omega) (of_decide_eq_true (by kernel_rfl)) (by kernel_rfl) (by kernel_rfl)

def fdata (o : Option TypeDesc) : List (Bool × TypeId × Nat) := match o with | some (.struct fs) => fs.toList.map (fun f => (f.name != "_", f.type, f.offset)) | _ => []

theorem key_pair (l : List Int) (hl : l.length = 2) (hx : ∀ x ∈ l, IntKind.i64.has x) : ∃ lit, keyOf PR 77 (ikey l) = some lit := by
  have h0 : fdata (PR.underlying 77) = [(true, 3, 0), (true, 3, 1)] := by kernel_rfl
  have h1 : PR.keyType 77 = true := by kernel_rfl
  have h2 : PR.cellsOf 77 = 2 := by kernel_rfl
  have h3 : PR.cellsOf 3 = 1 := by kernel_rfl
  have h4 : PR.underlying 3 = some (.int .i64) := by kernel_rfl
  have h5 : decide (0 < PR.types.size) = true := by kernel_rfl
  generalize PR = P at *
  match l, hl with
  | [a, b], _ =>
    have ha := hx a (by simp)
    have hb := hx b (by simp)
    cases hu : P.underlying 77 with
    | none => rw [hu] at h0; cases h0
    | some d =>
      rw [hu] at h0
      cases d with
      | struct fs =>
        simp only [fdata] at h0
        obtain ⟨f0, f1, hfs⟩ : ∃ f0 f1, fs.toList = [f0, f1] := by
          have := congrArg List.length h0
          simp at this
          match hh : fs.toList, this with
          | [f0, f1], _ => exact ⟨f0, f1, rfl⟩
          | [], h => simp [← Array.length_toList, hh] at h
          | [_], h => simp [← Array.length_toList, hh] at h
          | _ :: _ :: _ :: _, h => simp [← Array.length_toList, hh] at h
        rw [hfs] at h0
        simp only [List.map_cons, List.map_nil, List.cons.injEq, Prod.mk.injEq, and_true] at h0
        obtain ⟨⟨n0, t0, o0⟩, n1, t1, o1⟩ := h0
        have hall : fs.all (·.name != "_") = true := by
          rw [← Array.all_toList, hfs]; simp [n0, n1]
        have hw : ∀ x, IntKind.i64.has x → (Lit.int .i64 x).wf = true := fun x hx => by simpa [Lit.wf, IntKind.has] using hx
        refine ⟨.string (keyBytes [.int .i64 a, .int .i64 b]), ?_⟩
        obtain ⟨d, hd⟩ : ∃ d, P.types.size = d + 1 := ⟨P.types.size - 1, by have := of_decide_eq_true h5; omega⟩
        simp [keyOf, hu, h1, ikey, Value.formed, h2, hd, Value.cells, Program.keyLits, hfs, t0, t1, o0, o1, h3, h4, hw a ha, hw b hb, hall]
      | _ => simp [fdata] at h0
theorem unit_zero (w : World) : (zeroValue 105).run PR w = .ok (.agg #[]) w := by
  have h : (PR.info? 105).bind (·.zero) = some (.agg #[]) := by kernel_rfl
  cases hi : PR.info? 105 with
  | none => rw [hi] at h; cases h
  | some i => rw [hi] at h; exact run_zero hi h

theorem set_pair (zi zj : Int) (hi : IntKind.i64.has zi) (hj : IntKind.i64.has zj) : SetK PR 72 2 [zi, zj] :=
  ⟨⟨77, 105, by kernel_rfl, pair_law, key_pair, unit_zero⟩, fun x hx => by
      simp only [List.mem_cons, List.not_mem_nil, or_false] at hx
      rcases hx with rfl | rfl
      · exact hi
      · exact hj⟩

def fmem (n : Nat) (GS : Nat → Nat → DV) (k : Nat) (GT : Nat → Nat → DV) (room : Int) (p : Nat) (L : Nat → DV) (zi zj pu go ba : Int) (has : List Int → Bool) : List (Chunk Ob) :=
  [.blk (sblk n GS k GT room), .mset 2 has, .vec p 1 (fun j _ => .dv (L j)), .blk [.one (.ptr 0 0)], .blk [.one (.dv (.int .i64 zi)), .one (.dv (.int .i64 zj))], .blk [.one (.dv (.int .i64 pu)), .one (.dv (.int .i64 go)), .one (.dv (.int .i64 ba))]]

set_option maxRecDepth 100000 in
set_option maxHeartbeats 8000000 in
theorem ok_from_walk {n : Nat} {GS : Nat → Nat → DV} (S : Ents n GS) {k : Nat} {GT : Nat → Nat → DV} (T : Ents k GT) (room : Int) (has : List Int → Bool) (p : Nat) (L : Nat → DV) (i j : Nat) (hi : i ≤ n) (hj : j ≤ k) (hN : n + k < 1000)
    (zi zj pu go ba : Int) (hzi : zi = i) (hzj : zj = j) (o : Option (List Nat)) (qf q1 q2 : (List Int → Bool) → Prop)
    (hd : S.done i ∧ T.done j → o = some []) (hh : has [zi, zj] = true → ¬ (S.done i ∧ T.done j) → o = none ∧ qf has)
    (h1 : ¬ (S.done i ∧ T.done j) → i < n → ¬ T.late j (S.be i) → ¬ S.late (i + 1) (S.be i) → ∀ z, z = (i : Int) + 1 → CallOK PR n_order_search_from_c1 [.agg (S.row i), .agg [.dv (.int .i64 z), .dv (.int .i64 zj)], .dv (.int .i64 zi), .ptr 3 0, .ptr 4 0]
      (cmem n GS k GT room p L pu go ba (std.addk has [zi, zj])) fun r m => (∃ l has', o = some l ∧ r = .tup [.vec 5, .dv (.bool true)] ∧ m = cmem n GS k GT room p L pu go ba has' ++ [.vec l.length 1 (nm l.reverse)]) ∨
        (∃ has', r = .tup [.junk, .dv (.bool false)] ∧ m = cmem n GS k GT room p L pu go ba has' ∧ q1 has'))
    (h1' : ¬ (S.done i ∧ T.done j) → ¬ (i < n ∧ ¬ T.late j (S.be i) ∧ ¬ S.late (i + 1) (S.be i)) → q1 (std.addk has [zi, zj]))
    (h2 : ∀ has', q1 has' → j < k → ¬ S.late i (T.be j) → ¬ T.late (j + 1) (T.be j) → ∀ z, z = (j : Int) + 1 → ∀ nn, nn = ((n + j : Nat) : Int) → CallOK PR n_order_search_from_c1 [.agg (T.row j), .agg [.dv (.int .i64 zi), .dv (.int .i64 z)], .dv (.int .i64 nn), .ptr 3 0, .ptr 4 0]
      (cmem n GS k GT room p L pu go ba has') fun r m => (∃ l has', o = some l ∧ r = .tup [.vec 5, .dv (.bool true)] ∧ m = cmem n GS k GT room p L pu go ba has' ++ [.vec l.length 1 (nm l.reverse)]) ∨
        (∃ has', r = .tup [.junk, .dv (.bool false)] ∧ m = cmem n GS k GT room p L pu go ba has' ∧ q2 has'))
    (h2' : ∀ has', q1 has' → ¬ (j < k ∧ ¬ S.late i (T.be j) ∧ ¬ T.late (j + 1) (T.be j)) → q2 has')
    (h3 : ∀ has', q2 has' → o = none ∧ qf has') :
    CallOK PR n_order_search_from [.ptr 0 0, .agg [.dv (.int .i64 zi), .dv (.int .i64 zj)], .agg [.dv (.int .i64 pu), .dv (.int .i64 go), .dv (.int .i64 ba)]] (smem n GS k GT room has p L)
      (fromQ n GS k GT room p L o qf) := by
  refine fn_walk3 mixed fn_order_search_from ics_order_search_from (Ent.refl _ _) fun A P hA hP Q hQ => ?_
  have eF : ∀ (rest : List (Chunk Ob)) (has' : List Int → Bool), o = none ∧ qf has' → Q (.tup [.dv .nils, .dv (.bool false)]) (smem n GS k GT room has' p L ++ rest) := by
    intro rest has' h
    subst hQ
    exact ⟨.tup [.dv .nils, .dv (.bool false)], smem n GS k GT room has' p L, Ent.ren [0, 1, 2] rfl rfl ⟨⟨rfl, rfl, rfl, rfl, rfl, trivial⟩, rfl, ⟨rfl, rfl, fun _ _ _ _ => rfl⟩, trivial⟩ ⟨rfl, trivial⟩, .inr (.inl ⟨has', h.1, rfl, rfl, h.2⟩)⟩
  have eT : ∀ (b0 b1 b2 : Chunk Ob) (l : List Nat) (N : Nat) (at_ : Nat → Nat → SV) (has' : List Int → Bool), o = some l → N = l.length → (∀ i f, at_ i f = nm l.reverse i f) → Q (.tup [.vec 6, .dv (.bool true)]) (smem n GS k GT room has' p L ++ [b0, b1, b2, .vec N 1 at_]) := by
    intro b0 b1 b2 l N at_ has' h1 h2 h3
    subst hQ h2
    exact ⟨.tup [.vec 3, .dv (.bool true)], smem n GS k GT room has' p L ++ [(Chunk.vec l.length 1 (nm l.reverse) : Chunk Ob)], Ent.ren (s' := ⟨[.tup [.vec 3, .dv (.bool true)]], smem n GS k GT room has' p L ++ [(Chunk.vec l.length 1 (nm l.reverse) : Chunk Ob)]⟩) [0, 1, 2, 6] rfl rfl
      ⟨⟨rfl, rfl, rfl, rfl, rfl, trivial⟩, rfl, ⟨rfl, rfl, fun _ _ _ _ => rfl⟩, ⟨rfl, rfl, fun i f _ _ => by
        show VLe _ (at_ i f) (nm l.reverse i f)
        rw [h3]; rfl⟩, trivial⟩ ⟨rfl, trivial⟩, .inl ⟨l, has', h1, rfl, rfl⟩⟩
  have eD : ∀ rest, S.done i ∧ T.done j → Q (.tup [.dv .nils, .dv (.bool true)]) (smem n GS k GT room has p L ++ rest) := by
    intro rest h
    subst hQ
    exact ⟨.tup [.dv .nils, .dv (.bool true)], smem n GS k GT room has p L, Ent.ren [0, 1, 2] rfl rfl ⟨⟨rfl, rfl, rfl, rfl, rfl, trivial⟩, rfl, ⟨rfl, rfl, fun _ _ _ _ => rfl⟩, trivial⟩ ⟨rfl, trivial⟩, .inr (.inr ⟨has, hd h, rfl, rfl⟩)⟩
  clear hQ
  have hzi1 : A.bin .add .i64 zi 1 = (i : Int) + 1 := by subst hA; simp [hzi]; rw [w64_in (by omega)]
  have hzj1 : A.bin .add .i64 zj 1 = (j : Int) + 1 := by subst hA; simp [hzj]; rw [w64_in (by omega)]
  have hnn : A.bin .add .i64 (A.ofN n) zj = ((n + j : Nat) : Int) := by subst hA; simp [hzj]; rw [w64_in (by omega)]
  have hadd : A.addk has [zi, zj] = std.addk has [zi, zj] := by subst hA; rfl
  have hset : SetK P 72 2 [zi, zj] := by rw [hP]; exact set_pair zi zj (by simp [IntKind.has, IntKind.min, IntKind.max, IntKind.bits, IntKind.signed, hzi]; omega) (by simp [IntKind.has, IntKind.min, IntKind.max, IntKind.bits, IntKind.signed, hzj]; omega)
  simp only [← hadd] at h1 h1'
  clear hadd
  have ltS : A.cmp .lss zi (A.ofN n) = true → i < n := by subst hA; simp [hzi]
  have ltS' : A.cmp .lss zi (A.ofN n) = false → ¬ i < n := by subst hA; simp [hzi]
  have ltT : A.cmp .lss zj (A.ofN k) = true → j < k := by subst hA; simp [hzj]
  have ltT' : A.cmp .lss zj (A.ofN k) = false → ¬ j < k := by subst hA; simp [hzj]
  have inS : i < n → A.inb zi n := by subst hA; simp [hzi]
  have inT : j < k → A.inb zj k := by subst hA; simp [hzj]
  have toS : i = A.toN zi := by subst hA; simp [hzi]
  have toT : j = A.toN zj := by subst hA; simp [hzj]
  have part4 : ∀ has', q2 has' → vC A P 3 ic_order_search_from_4 ⟨envOf 178 [(3, .ptr 3 0), (4, .ptr 4 0), (5, .ptr 5 0)], fmem n GS k GT room p L zi zj pu go ba has'⟩ (bodyK [.t 6, .t 7] Q) := by
    intro has' hq
    cbv
    exact eF _ has' (h3 has' hq)
  have part3 : ∀ has', q1 has' → vC A P 3 ic_order_search_from_3 ⟨envOf 178 [(3, .ptr 3 0), (4, .ptr 4 0), (5, .ptr 5 0), (10, .fn 55 [.ptr 3 0, .ptr 5 0])], fmem n GS k GT room p L zi zj pu go ba has'⟩ (bodyK [.t 6, .t 7] Q) := by
    intro has' hq
    have hc1 := fun a b c => h2 has' hq a b c _ hzj1 _ hnn
    clear h1 h1' h2
    cbv
    intro _
    cbv
    refine bc_split (fun d1 => ?_) (fun d1 => ?_)
    · have e1 : j < k := ltT d1
      cbv
      refine ⟨inT e1, fun r hr hr2 => ?_⟩
      obtain rfl : j = r := toT.trans hr.symm
      clear hr
      cbv
      rw [T.h0 j (by assumption), T.h1 j (by assumption), T.h2 j (by assumption), T.h3 j (by assumption), T.h4 j (by assumption), T.h5 j (by assumption), T.h6 j (by assumption), T.h7 j (by assumption)]
      cbv
      refine call_pure hP code_order_free (ok_free S i hi zi hzi (T.co j) (T.pe j) (T.kd j) (T.be j) (T.en j) (T.er j) (T.m j) (T.g j) (T.ha j)) (by cbv; all_goals simp) ?_
      rintro _ ⟨v1, hv1, rfl⟩
      cbv
      refine bc_split (fun d2 => ?_) (fun d2 => ?_)
      · have e2 := hv1.1 d2
        cbv
        refine ⟨inT e1, fun r' hr hr2 => ?_⟩
        obtain rfl : j = r' := toT.trans hr.symm
        clear hr
        cbv
        rw [T.h0 j (by assumption), T.h1 j (by assumption), T.h2 j (by assumption), T.h3 j (by assumption), T.h4 j (by assumption), T.h5 j (by assumption), T.h6 j (by assumption), T.h7 j (by assumption)]
        cbv
        refine call_pure hP code_order_free (ok_free T (j + 1) e1 _ hzj1 (T.co j) (T.pe j) (T.kd j) (T.be j) (T.en j) (T.er j) (T.m j) (T.g j) (T.ha j)) (by cbv; all_goals simp) ?_
        rintro _ ⟨v2, hv2, rfl⟩
        cbv
        refine bc_split (fun d3 => ?_) (fun d3 => ?_)
        · have e3 := hv2.1 d3
          cbv
          refine ⟨inT e1, fun r hr hr3 => ?_⟩
          obtain rfl : j = r := toT.trans hr.symm
          clear hr
          cbv
          rw [T.h0 j (by assumption), T.h1 j (by assumption), T.h2 j (by assumption), T.h3 j (by assumption), T.h4 j (by assumption), T.h5 j (by assumption), T.h6 j (by assumption), T.h7 j (by assumption)]
          cbv
          intro _
          cbv
          refine call_at hP [0, 1, 2, 3, 5] code_order_search_from_c1 (hc1 e1 e2 e3) rfl ⟨⟨rfl, rfl, rfl, rfl, rfl, trivial⟩, rfl, ⟨rfl, rfl, fun _ _ _ _ => rfl⟩, ⟨rfl, trivial⟩, ⟨rfl, rfl, rfl, trivial⟩, trivial⟩ ⟨rfl, rfl, rfl, rfl, rfl, trivial⟩ ?_
          rintro _ _ (⟨l, has2, ho, rfl, rfl⟩ | ⟨has2, rfl, rfl, hq2⟩) _
          · have hN1 : ∀ σ i f, renV σ (nm l.reverse i f) = nm l.reverse i f := fun _ _ _ => rfl
            generalize hN2 : nm l.reverse = N1 at *
            generalize hL : l.length = Le at *
            cbv
            exact eT _ _ _ l _ _ has2 ho hL.symm (fun i f => by simp only [hN1, hN2])
          · cbv
            exact cut_at mixed hP hA ⟨envOf 178 [(3, .ptr 3 0), (4, .ptr 4 0), (5, .ptr 5 0)], fmem n GS k GT room p L zi zj pu go ba has2⟩ (Ent.ren [0, 1, 2, 3, 4, 5] rfl rfl (by exact ⟨⟨rfl, rfl, rfl, rfl, rfl, trivial⟩, rfl, ⟨rfl, rfl, fun _ _ _ _ => rfl⟩, ⟨rfl, trivial⟩, ⟨rfl, rfl, trivial⟩, ⟨rfl, rfl, rfl, trivial⟩, trivial⟩) (by cbv; all_goals trivial)) (part4 has2 hq2)
        · have e3 : ¬ v2 = true := by rw [d3]; exact Bool.false_ne_true
          cbv
          exact cut_at mixed hP hA ⟨envOf 178 [(3, .ptr 3 0), (4, .ptr 4 0), (5, .ptr 5 0)], fmem n GS k GT room p L zi zj pu go ba has'⟩ (Ent.ren [0, 1, 2, 3, 4, 5] rfl rfl (by exact ⟨⟨rfl, rfl, rfl, rfl, rfl, trivial⟩, rfl, ⟨rfl, rfl, fun _ _ _ _ => rfl⟩, ⟨rfl, trivial⟩, ⟨rfl, rfl, trivial⟩, ⟨rfl, rfl, rfl, trivial⟩, trivial⟩) (by cbv; all_goals trivial)) (part4 has' (h2' has' hq (fun h => e3 (hv2.2 h.2.2))))
      · have e2 : ¬ v1 = true := by rw [d2]; exact Bool.false_ne_true
        cbv
        exact cut_at mixed hP hA ⟨envOf 178 [(3, .ptr 3 0), (4, .ptr 4 0), (5, .ptr 5 0)], fmem n GS k GT room p L zi zj pu go ba has'⟩ (Ent.ren [0, 1, 2, 3, 4, 5] rfl rfl (by exact ⟨⟨rfl, rfl, rfl, rfl, rfl, trivial⟩, rfl, ⟨rfl, rfl, fun _ _ _ _ => rfl⟩, ⟨rfl, trivial⟩, ⟨rfl, rfl, trivial⟩, ⟨rfl, rfl, rfl, trivial⟩, trivial⟩) (by cbv; all_goals trivial)) (part4 has' (h2' has' hq (fun h => e2 (hv1.2 h.2.1))))
    · have e1 := ltT' d1
      cbv
      exact cut_at mixed hP hA ⟨envOf 178 [(3, .ptr 3 0), (4, .ptr 4 0), (5, .ptr 5 0)], fmem n GS k GT room p L zi zj pu go ba has'⟩ (Ent.ren [0, 1, 2, 3, 4, 5] rfl rfl (by exact ⟨⟨rfl, rfl, rfl, rfl, rfl, trivial⟩, rfl, ⟨rfl, rfl, fun _ _ _ _ => rfl⟩, ⟨rfl, trivial⟩, ⟨rfl, rfl, trivial⟩, ⟨rfl, rfl, rfl, trivial⟩, trivial⟩) (by cbv; all_goals trivial)) (part4 has' (h2' has' hq (fun h => e1 h.1)))
  clear h2 h2' part4
  by_cases hnd : S.done i ∧ T.done j
  · have eD' := fun r => eD r hnd
    obtain ⟨g1, g2⟩ := hnd
    clear h1 h1' hh part3
    cbv
    refine call_pure hP code_order_done (ok_done S i hi zi hzi) (by cbv; all_goals simp) ?_
    rintro _ ⟨v1, hv1, rfl⟩
    obtain rfl : v1 = true := hv1.2 g1
    cbv
    refine call_pure hP code_order_done (ok_done T j hj zj hzj) (by cbv; all_goals simp) ?_
    rintro _ ⟨v2, hv2, rfl⟩
    obtain rfl : v2 = true := hv2.2 g2
    cbv
    exact eD' _
  have part2 : vC A P 3 ic_order_search_from_2 ⟨envOf 178 [(3, .ptr 3 0), (4, .ptr 4 0), (5, .ptr 5 0)], fmem n GS k GT room p L zi zj pu go ba has⟩ (bodyK [.t 6, .t 7] Q) := by
    have hc1 := fun a b c => h1 hnd a b c _ hzi1
    clear h1
    cbv
    refine ⟨hset, ?_⟩
    cbv
    intro _
    cbv
    refine bc_split (fun d1 => ?_) (fun d1 => ?_)
    · have e1 : i < n := ltS d1
      cbv
      refine ⟨inS e1, fun r hr hr2 => ?_⟩
      obtain rfl : i = r := toS.trans hr.symm
      clear hr
      cbv
      rw [S.h0 i (by assumption), S.h1 i (by assumption), S.h2 i (by assumption), S.h3 i (by assumption), S.h4 i (by assumption), S.h5 i (by assumption), S.h6 i (by assumption), S.h7 i (by assumption)]
      cbv
      refine call_pure hP code_order_free (ok_free T j hj zj hzj (S.co i) (S.pe i) (S.kd i) (S.be i) (S.en i) (S.er i) (S.m i) (S.g i) (S.ha i)) (by cbv; all_goals simp) ?_
      rintro _ ⟨v1, hv1, rfl⟩
      cbv
      refine bc_split (fun d2 => ?_) (fun d2 => ?_)
      · have e2 := hv1.1 d2
        cbv
        refine ⟨inS e1, fun r' hr hr2 => ?_⟩
        obtain rfl : i = r' := toS.trans hr.symm
        clear hr
        cbv
        rw [S.h0 i (by assumption), S.h1 i (by assumption), S.h2 i (by assumption), S.h3 i (by assumption), S.h4 i (by assumption), S.h5 i (by assumption), S.h6 i (by assumption), S.h7 i (by assumption)]
        cbv
        refine call_pure hP code_order_free (ok_free S (i + 1) e1 _ hzi1 (S.co i) (S.pe i) (S.kd i) (S.be i) (S.en i) (S.er i) (S.m i) (S.g i) (S.ha i)) (by cbv; all_goals simp) ?_
        rintro _ ⟨v2, hv2, rfl⟩
        cbv
        refine bc_split (fun d3 => ?_) (fun d3 => ?_)
        · have e3 := hv2.1 d3
          cbv
          refine ⟨inS e1, fun r hr hr3 => ?_⟩
          obtain rfl : i = r := toS.trans hr.symm
          clear hr
          cbv
          rw [S.h0 i (by assumption), S.h1 i (by assumption), S.h2 i (by assumption), S.h3 i (by assumption), S.h4 i (by assumption), S.h5 i (by assumption), S.h6 i (by assumption), S.h7 i (by assumption)]
          cbv
          refine call_at hP [0, 1, 2, 3, 5] code_order_search_from_c1 (hc1 e1 e2 e3) rfl ⟨⟨rfl, rfl, rfl, rfl, rfl, trivial⟩, rfl, ⟨rfl, rfl, fun _ _ _ _ => rfl⟩, ⟨rfl, trivial⟩, ⟨rfl, rfl, rfl, trivial⟩, trivial⟩ ⟨rfl, rfl, rfl, rfl, rfl, trivial⟩ ?_
          rintro _ _ (⟨l, has2, ho, rfl, rfl⟩ | ⟨has2, rfl, rfl, hq2⟩) _
          · have hN1 : ∀ σ i f, renV σ (nm l.reverse i f) = nm l.reverse i f := fun _ _ _ => rfl
            generalize hN2 : nm l.reverse = N1 at *
            generalize hL : l.length = Le at *
            cbv
            exact eT _ _ _ l _ _ has2 ho hL.symm (fun i f => by simp only [hN1, hN2])
          · cbv
            exact cut_at mixed hP hA ⟨envOf 178 [(3, .ptr 3 0), (4, .ptr 4 0), (5, .ptr 5 0), (10, .fn 55 [.ptr 3 0, .ptr 5 0])], fmem n GS k GT room p L zi zj pu go ba has2⟩ (Ent.ren [0, 1, 2, 3, 4, 5] rfl rfl (by exact ⟨⟨rfl, rfl, rfl, rfl, rfl, trivial⟩, rfl, ⟨rfl, rfl, fun _ _ _ _ => rfl⟩, ⟨rfl, trivial⟩, ⟨rfl, rfl, trivial⟩, ⟨rfl, rfl, rfl, trivial⟩, trivial⟩) (by cbv; all_goals trivial)) (part3 has2 hq2)
        · have e3 : ¬ v2 = true := by rw [d3]; exact Bool.false_ne_true
          cbv
          exact cut_at mixed hP hA ⟨envOf 178 [(3, .ptr 3 0), (4, .ptr 4 0), (5, .ptr 5 0), (10, .fn 55 [.ptr 3 0, .ptr 5 0])], fmem n GS k GT room p L zi zj pu go ba (A.addk has [zi, zj])⟩ (Ent.ren [0, 1, 2, 3, 4, 5] rfl rfl (by exact ⟨⟨rfl, rfl, rfl, rfl, rfl, trivial⟩, rfl, ⟨rfl, rfl, fun _ _ _ _ => rfl⟩, ⟨rfl, trivial⟩, ⟨rfl, rfl, trivial⟩, ⟨rfl, rfl, rfl, trivial⟩, trivial⟩) (by cbv; all_goals trivial)) (part3 _ (h1' hnd (fun h => e3 (hv2.2 h.2.2))))
      · have e2 : ¬ v1 = true := by rw [d2]; exact Bool.false_ne_true
        cbv
        exact cut_at mixed hP hA ⟨envOf 178 [(3, .ptr 3 0), (4, .ptr 4 0), (5, .ptr 5 0), (10, .fn 55 [.ptr 3 0, .ptr 5 0])], fmem n GS k GT room p L zi zj pu go ba (A.addk has [zi, zj])⟩ (Ent.ren [0, 1, 2, 3, 4, 5] rfl rfl (by exact ⟨⟨rfl, rfl, rfl, rfl, rfl, trivial⟩, rfl, ⟨rfl, rfl, fun _ _ _ _ => rfl⟩, ⟨rfl, trivial⟩, ⟨rfl, rfl, trivial⟩, ⟨rfl, rfl, rfl, trivial⟩, trivial⟩) (by cbv; all_goals trivial)) (part3 _ (h1' hnd (fun h => e2 (hv1.2 h.2.1))))
    · have e1 := ltS' d1
      cbv
      exact cut_at mixed hP hA ⟨envOf 178 [(3, .ptr 3 0), (4, .ptr 4 0), (5, .ptr 5 0), (10, .fn 55 [.ptr 3 0, .ptr 5 0])], fmem n GS k GT room p L zi zj pu go ba (A.addk has [zi, zj])⟩ (Ent.ren [0, 1, 2, 3, 4, 5] rfl rfl (by exact ⟨⟨rfl, rfl, rfl, rfl, rfl, trivial⟩, rfl, ⟨rfl, rfl, fun _ _ _ _ => rfl⟩, ⟨rfl, trivial⟩, ⟨rfl, rfl, trivial⟩, ⟨rfl, rfl, rfl, trivial⟩, trivial⟩) (by cbv; all_goals trivial)) (part3 _ (h1' hnd (fun h => e1 h.1)))
  clear part3 h1 h1'
  have part1 : vC A P 3 ic_order_search_from_1 ⟨envOf 178 [(3, .ptr 3 0), (4, .ptr 4 0), (5, .ptr 5 0)], fmem n GS k GT room p L zi zj pu go ba has⟩ (bodyK [.t 6, .t 7] Q) := by
    cbv
    refine ⟨⟨hset, ?_⟩, ?_⟩
    · cbv
      refine bc_split (fun d => ?_) (fun d => ?_)
      · cbv
        exact eF _ has (hh d hnd)
      · cbv
        exact cut_at mixed hP hA ⟨envOf 178 [(3, .ptr 3 0), (4, .ptr 4 0), (5, .ptr 5 0)], fmem n GS k GT room p L zi zj pu go ba has⟩ (Ent.ren [0, 1, 2, 3, 4, 5] rfl rfl (by exact ⟨⟨rfl, rfl, rfl, rfl, rfl, trivial⟩, rfl, ⟨rfl, rfl, fun _ _ _ _ => rfl⟩, ⟨rfl, trivial⟩, ⟨rfl, rfl, trivial⟩, ⟨rfl, rfl, rfl, trivial⟩, trivial⟩) (by cbv; all_goals trivial)) part2
    · cbv
      repeat first
        | (refine Chk.mk trivial ?_; cbv)
        | (refine Chk.mk hset ?_; cbv)
      refine bc_split (fun d => ?_) (fun d => ?_)
      · cbv
        exact eF _ has (hh d hnd)
      · cbv
        exact cut_at mixed hP hA ⟨envOf 178 [(3, .ptr 3 0), (4, .ptr 4 0), (5, .ptr 5 0)], fmem n GS k GT room p L zi zj pu go ba has⟩ (Ent.ren [0, 1, 2, 3, 4, 5] rfl rfl (by exact ⟨⟨rfl, rfl, rfl, rfl, rfl, trivial⟩, rfl, ⟨rfl, rfl, fun _ _ _ _ => rfl⟩, ⟨rfl, trivial⟩, ⟨rfl, rfl, trivial⟩, ⟨rfl, rfl, rfl, trivial⟩, trivial⟩) (by cbv; all_goals trivial)) part2
  clear part2 hh eF eT eD
  cbv
  refine call_pure hP code_order_done (ok_done S i hi zi hzi) (by cbv; all_goals simp) ?_
  rintro _ ⟨v1, hv1, rfl⟩
  cbv
  refine bc_split (fun d1 => ?_) (fun d1 => ?_)
  · have g1 := hv1.1 d1
    cbv
    refine call_pure hP code_order_done (ok_done T j hj zj hzj) (by cbv; all_goals simp) ?_
    rintro _ ⟨v2, hv2, rfl⟩
    obtain rfl : v2 = false := by
      cases v2
      · rfl
      · exact (hnd ⟨g1, hv2.1 rfl⟩).elim
    cbv
    exact cut_at mixed hP hA ⟨envOf 178 [(3, .ptr 3 0), (4, .ptr 4 0), (5, .ptr 5 0)], fmem n GS k GT room p L zi zj pu go ba has⟩ (Ent.ren [0, 1, 2, 3, 4, 5] rfl rfl (by exact ⟨⟨rfl, rfl, rfl, rfl, rfl, trivial⟩, rfl, ⟨rfl, rfl, fun _ _ _ _ => rfl⟩, ⟨rfl, trivial⟩, ⟨rfl, rfl, trivial⟩, ⟨rfl, rfl, rfl, trivial⟩, trivial⟩) (by cbv; all_goals trivial)) part1
  · cbv
    exact cut_at mixed hP hA ⟨envOf 178 [(3, .ptr 3 0), (4, .ptr 4 0), (5, .ptr 5 0)], fmem n GS k GT room p L zi zj pu go ba has⟩ (Ent.ren [0, 1, 2, 3, 4, 5] rfl rfl (by exact ⟨⟨rfl, rfl, rfl, rfl, rfl, trivial⟩, rfl, ⟨rfl, rfl, fun _ _ _ _ => rfl⟩, ⟨rfl, trivial⟩, ⟨rfl, rfl, trivial⟩, ⟨rfl, rfl, rfl, trivial⟩, trivial⟩) (by cbv; all_goals trivial)) part1

end Go.Proofs.Ytophlodlencgiaa
