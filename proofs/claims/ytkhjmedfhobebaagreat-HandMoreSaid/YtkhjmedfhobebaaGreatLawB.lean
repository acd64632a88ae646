/- The examples of the chapter, and the walk of the law's function that checks them. No condition. -/
import Derived.Test.YtkhjmedfhobebaaGreatDoX
import Derived.Test.YtkhjmedfhobebaaGreatLawA
namespace HandSpec
def two : WD := fourW 3 (Go.rowsAt (allS 14))
def three : WD := fourW 3 (Go.rowsAt (allS 12))
def one : WD := fourW 2 (Go.rowsAt [[2, 1, 5], [2, 14, 20]])
def nobody : WD := fourW 0 (Go.rowsAt [])
theorem ex1 : P.chk two = 0 := by decide +kernel
theorem ex2 : P.toldE two false = 0 := by decide +kernel
theorem ex3 : P.toldE three false = 0 := by decide +kernel
theorem ex4 : P.toldE one false = 0 := by decide +kernel
theorem ex5 : P.chk nobody = 0 := by decide +kernel
theorem ex6 : R.clashes nobody = some (0, 2) := by decide +kernel
theorem ex7 : P.smallest two = [(0, 2), (2, 3)] := by decide +kernel
theorem ex8 : P.fewest two = [1] := by decide +kernel
theorem ex9 : P.fewest three = [0, 2] := by decide +kernel
theorem ex10 : P.proved two 7 = 17 := by decide +kernel
theorem ex11 : P.proved three 4 = 11 := by decide +kernel
theorem ex12 : P.must three = [2] := by decide +kernel
theorem ex13 : P.proved one 4 = 17 := by decide +kernel
end HandSpec
namespace Go.Proofs.YtkhjmedfhobebaaGreat
open Go.RowKit HandSpec
set_option maxHeartbeats 2000000
set_option maxRecDepth 100000
theorem slr_new (W : World) (t : TypeId) {C : Array Value} {c n : Nat} (L : List (List Int)) (hC : C.toList = cellsOf L) (hc : ∀ r ∈ L, r.length = c) (hn : L.length = n) : SlR (W.alloc (.cells C t)) c (.slice (some ⟨W.heap.size, 0, none⟩) n n) L :=
 ⟨_, n, by rw [hn], Rd.of_blk (Blk.new _ _ _) hC hc⟩
theorem eq70x {W : World} {A : Option Addr} {q : Nat} (hr : Rd W A 2 2 (rowsAt (rows2 [(0, 2), (2, 3)]))) :
  Calls Tryz.prog 70 #[.slice A 2 q, .slice (some ⟨W.heap.size, 0, none⟩) 2 2] (W.alloc (.cells #[.int .i64 0, .int .i64 2, .int .i64 2, .int .i64 3] 51)) fun e w' => e = .returned (.bool true) ∧ Ext W w' := by
 have h2 : Rd (W.alloc (.cells #[.int .i64 0, .int .i64 2, .int .i64 2, .int .i64 3] 51)) (some ⟨W.heap.size, 0, none⟩) 2 2 (rowsAt [[0, 2], [2, 3]]) := Rd.of_blk (C := #[.int .i64 0, .int .i64 2, .int .i64 2, .int .i64 3]) (L := [[0, 2], [2, 3]]) (Blk.new W 51 _) (by simp [cellsOf]) (by simp)
 refine (equal70 (hr.ext ((Ext.refl _).alloc _)) h2 (by omega) (by omega)).mono ?_
 rintro e w' ⟨rfl, he⟩
 exact ⟨ret_bool (by decide), ((Ext.refl _).alloc _).trans he⟩
theorem eq71a {W : World} {A : Option Addr} {q : Nat} (hr : Rd W A 1 1 (rowsAt (rows1 [1]))) :
  Calls Tryz.prog 71 #[.slice A 1 q, .slice (some ⟨W.heap.size, 0, none⟩) 1 1] (W.alloc (.cells #[.int .i64 1] 3)) fun e w' => e = .returned (.bool true) ∧ Ext W w' := by
 have h2 : Rd (W.alloc (.cells #[.int .i64 1] 3)) (some ⟨W.heap.size, 0, none⟩) 1 1 (rowsAt [[1]]) := Rd.of_blk (C := #[.int .i64 1]) (L := [[1]]) (Blk.new W 3 _) (by simp [cellsOf]) (by simp)
 refine (equal71 (hr.ext ((Ext.refl _).alloc _)) h2 (by omega) (by omega)).mono ?_
 rintro e w' ⟨rfl, he⟩
 exact ⟨ret_bool (by decide), ((Ext.refl _).alloc _).trans he⟩
theorem eq71b {W : World} {A : Option Addr} {q : Nat} (hr : Rd W A 2 1 (rowsAt (rows1 [0, 2]))) :
  Calls Tryz.prog 71 #[.slice A 2 q, .slice (some ⟨W.heap.size, 0, none⟩) 2 2] (W.alloc (.cells #[.int .i64 0, .int .i64 2] 3)) fun e w' => e = .returned (.bool true) ∧ Ext W w' := by
 have h2 : Rd (W.alloc (.cells #[.int .i64 0, .int .i64 2] 3)) (some ⟨W.heap.size, 0, none⟩) 2 1 (rowsAt [[0], [2]]) := Rd.of_blk (C := #[.int .i64 0, .int .i64 2]) (L := [[0], [2]]) (Blk.new W 3 _) (by simp [cellsOf]) (by simp)
 refine (equal71 (hr.ext ((Ext.refl _).alloc _)) h2 (by omega) (by omega)).mono ?_
 rintro e w' ⟨rfl, he⟩
 exact ⟨ret_bool (by decide), ((Ext.refl _).alloc _).trans he⟩
theorem eq71c {W : World} {A : Option Addr} {q : Nat} (hr : Rd W A 1 1 (rowsAt (rows1 [2]))) :
  Calls Tryz.prog 71 #[.slice A 1 q, .slice (some ⟨W.heap.size, 0, none⟩) 1 1] (W.alloc (.cells #[.int .i64 2] 3)) fun e w' => e = .returned (.bool true) ∧ Ext W w' := by
 have h2 : Rd (W.alloc (.cells #[.int .i64 2] 3)) (some ⟨W.heap.size, 0, none⟩) 1 1 (rowsAt [[2]]) := Rd.of_blk (C := #[.int .i64 2]) (L := [[2]]) (Blk.new W 3 _) (by simp [cellsOf]) (by simp)
 refine (equal71 (hr.ext ((Ext.refl _).alloc _)) h2 (by omega) (by omega)).mono ?_
 rintro e w' ⟨rfl, he⟩
 exact ⟨ret_bool (by decide), ((Ext.refl _).alloc _).trans he⟩
theorem least_two {x : WD} {w : World} {v : Value} (hv : IsW w v x) (h1 : x.cn ≤ 1000) (h2 : x.bn ≤ 1000) (h3 : x.sn ≤ 1000) (hh : (2 : Int) < x.hands) (he : P.toldE x false = 0) :
  Calls Tryz.prog 25 #[v, .int .i64 2] w fun e w' => e = .returned (.tuple #[.int .i64 (P.proved x 4), .int .i64 0]) ∧ Ext w w' := least_ok (h := 2) hv h1 h2 h3 hh he
theorem awake_any (w : World) : Calls Tryz.prog 18 #[] w fun e w' => e = .returned (.bool true) ∧ Ext w w' := by
 go_enter Tryz.func18, Tryz.ntmps18
 go_upto_region 2 with (first
  | (go_at_call 111; (with_reducible refine (all111 14 _).mono ?_); rintro e wa ⟨va, rfl, hea, hsa⟩)
  | (go_at_call 110; (with_reducible refine (four110 hsa).mono ?_); rintro e wb ⟨vb, rfl, heb, hib⟩; have hib : IsW wb vb two := hib; have HIB := hid hib; clear hsa)
  | (go_at_call 111; (with_reducible refine (all111 12 _).mono ?_); rintro e wc ⟨vc, rfl, hec, hsc⟩)
  | (go_at_call 110; (with_reducible refine (four110 hsc).mono ?_); rintro e wd ⟨vd, rfl, hed, hid'⟩; have hid' : IsW wd vd three := hid'; have HID := hid hid'; obtain ⟨A1, c1, A2, c2, A3, c3, rfl, -, -, -⟩ := hib; obtain ⟨B1, d1, B2, d2, B3, d3, rfl, -, -, -⟩ := hid'))
 refine wp_later fun w2 hw2 => ?_
 obtain ⟨E2, b1, b2⟩ := hw2.newB2
 have HT := hid (HIB.out.ext (hec.trans (hed.trans E2)))
 have HH := hid (HID.out.ext E2)
 have E0 := hid (hea.trans (heb.trans (hec.trans (hed.trans E2))))
 have E := hid (Ext.refl w2)
 have k1 := b1.cell
 have k1l := b1.lt
 have k2 := b2.cell
 have k2l := b2.lt
 clear hw2 hsc HIB HID hea heb hec hed E2
 go_upto_region 3 with (go_at_call 48; (with_reducible refine (smallestX_ok (HT.out.ext E.out) (by decide) (by decide) (by decide) ex1).mono ?_); rintro e w3 ⟨v3, rfl, he3, s3⟩; rw [ex7] at s3; have S3 := hid s3; clear s3; have E := hid (E.out.trans he3); have k1 := (b1.ext E.out).cell; have k1l := (b1.ext E.out).lt; have k2 := (b2.ext E.out).cell; have k2l := (b2.ext E.out).lt)
 go_upto_region 4 with (go_at_call 35; (with_reducible refine (fewest_ok (HT.out.ext E.out) (by decide) (by decide) (by decide) ex2).mono ?_); rintro e w4 ⟨v4, rfl, he4, s4⟩; rw [ex8] at s4; have S4 := hid s4; clear s4; have E := hid (E.out.trans he4); have k1 := (b1.ext E.out).cell; have k1l := (b1.ext E.out).lt; have k2 := (b2.ext E.out).cell; have k2l := (b2.ext E.out).lt)
 go_upto_region 5 with (go_at_call 35; (with_reducible refine (fewest_ok (HH.out.ext E.out) (by decide) (by decide) (by decide) ex3).mono ?_); rintro e w5 ⟨v5, rfl, he5, s5⟩; rw [ex9] at s5; have S5 := hid s5; clear s5; have E := hid (E.out.trans he5); have k1 := (b1.ext E.out).cell; have k1l := (b1.ext E.out).lt; have k2 := (b2.ext E.out).cell; have k2l := (b2.ext E.out).lt)
 go_upto_region 6 with (go_at_call 27; (with_reducible refine (missing_ok (HT.out.ext E.out) (by decide) (by decide) (by decide) ex2).mono ?_); rintro e w6 ⟨rfl, he6⟩; rw [show P.proved two (2 ^ two.hands.toNat - 1) = 17 from ex10]; have E := hid (E.out.trans he6); have k1 := (b1.ext E.out).cell; have k1l := (b1.ext E.out).lt; have k2 := (b2.ext E.out).cell; have k2l := (b2.ext E.out).lt)
 go_upto_region 7 with (go_at_call 25; (with_reducible refine (least_two (HH.out.ext E.out) (by decide) (by decide) (by decide) (by decide) ex3).mono ?_); rintro e w7 ⟨rfl, he7⟩; rw [ex11]; have E := hid (E.out.trans he7); have k1 := (b1.ext E.out).cell; have k1l := (b1.ext E.out).lt; have k2 := (b2.ext E.out).cell; have k2l := (b2.ext E.out).lt)
 go_upto_region 8 with (go_at_call 36; (with_reducible refine (must_ok (HH.out.ext E.out) (by decide) (by decide) (by decide) ex3).mono ?_); rintro e w8 ⟨v8, rfl, he8, s8⟩; rw [ex12] at s8; have S8 := hid s8; clear s8; have E := hid (E.out.trans he8); have k1 := (b1.ext E.out).cell; have k1l := (b1.ext E.out).lt; have k2 := (b2.ext E.out).cell; have k2l := (b2.ext E.out).lt)
 have HS9 : Hid (SlR (w8.alloc (.cells #[.int .i64 2, .int .i64 1, .int .i64 5, .int .i64 2, .int .i64 14, .int .i64 20] 114)) 3 (.slice (some ⟨w8.heap.size, 0, none⟩) 2 2) [[2, 1, 5], [2, 14, 20]]) := hid (slr_new _ _ _ (by simp [cellsOf]) (by simp) rfl)
 go_upto_region 9 with (first | (go_at_call 110; (with_reducible refine (four110 HS9.out).mono ?_); rintro e w9 ⟨v9, rfl, he9, s9⟩; have S9 : Hid (IsW w9 v9 one) := hid s9; clear s9) | (go_at_call 25; (with_reducible refine (least_two S9.out (by decide) (by decide) (by decide) (by decide) ex4).mono ?_); rintro e w10 ⟨rfl, he10⟩; rw [ex13]))
 have HN : Hid (SlR w10 3 (.slice none 0 0) ([] : List (List Int))) := hid ⟨none, 0, rfl, Rd.nil⟩
 go_upto_region 10 with (first | (go_at_call 110; (with_reducible refine (four110 HN.out).mono ?_); rintro e w11 ⟨v11, rfl, he11, s11⟩; have S11 : Hid (IsW w11 v11 nobody) := hid s11; clear s11) | (go_at_call 50; (with_reducible refine (clashesX_ok S11.out (by decide) (by decide) (by decide) ex5 ex6).mono ?_); rintro e w12 ⟨rfl, he12⟩))
 refine wp_later fun w13 hw13 => ?_
 obtain ⟨E13, b17⟩ := hw13.newB
 have X8 : Ext w8 w13 := ((Ext.refl _).alloc _).trans (he9.trans (he10.trans (he11.trans (he12.trans E13))))
 have X5 : Ext w5 w13 := he6.trans (he7.trans (he8.trans X8))
 have X4 : Ext w4 w13 := he5.trans X5
 have X3 : Ext w3 w13 := he4.trans X4
 obtain ⟨A3', q3, h3, r3⟩ := S3.out
 obtain ⟨A4', q4, h4, r4⟩ := S4.out
 obtain ⟨A5', q5, h5, r5⟩ := S5.out
 obtain ⟨A8', q8, h8, r8⟩ := S8.out
 have h3 : v3 = .slice A3' 2 q3 := h3
 have h4 : v4 = .slice A4' 1 q4 := h4
 have h5 : v5 = .slice A5' 2 q5 := h5
 have h8 : v8 = .slice A8' 1 q8 := h8
 subst h3 h4 h5 h8
 have R3 : Hid (Rd w13 A3' 2 2 (rowsAt (rows2 [(0, 2), (2, 3)]))) := hid (r3.ext X3)
 have R4 : Hid (Rd w13 A4' 1 1 (rowsAt (rows1 [1]))) := hid (r4.ext X4)
 have R5 : Hid (Rd w13 A5' 2 1 (rowsAt (rows1 [0, 2]))) := hid (r5.ext X5)
 have R8 : Hid (Rd w13 A8' 1 1 (rowsAt (rows1 [2]))) := hid (r8.ext X8)
 have EE := hid (E0.out.trans (E.out.trans X8))
 have F := hid (Ext.refl w13)
 clear r3 r4 r5 r8 X8 X5 X4 X3 S3 S4 S5 S8 S9 S11 HS9 HN HT HH hw13 E13 he3 he4 he5 he6 he7 he8 he9 he10 he11 he12
 clear k1 k1l k2 k2l
 have k17 := b17.cell
 have k17l := b17.lt
 go_wp2_with (first
  | (go_at_call 70; (with_reducible refine (eq70x (R3.out.ext F.out)).mono ?_); rintro e w14 ⟨rfl, he14⟩; have F := hid (F.out.trans he14); have k17 := (b17.ext F.out).cell; have k17l := (b17.ext F.out).lt)
  | (go_at_call 71; (with_reducible refine (eq71a (R4.out.ext F.out)).mono ?_); rintro e w15 ⟨rfl, he15⟩; have F := hid (F.out.trans he15); have k17 := (b17.ext F.out).cell; have k17l := (b17.ext F.out).lt)
  | (go_at_call 71; (with_reducible refine (eq71b (R5.out.ext F.out)).mono ?_); rintro e w16 ⟨rfl, he16⟩; have F := hid (F.out.trans he16); have k17 := (b17.ext F.out).cell; have k17l := (b17.ext F.out).lt)
  | (go_at_call 71; (with_reducible refine (eq71c (R8.out.ext F.out)).mono ?_); rintro e w17 ⟨rfl, he17⟩; have F := hid (F.out.trans he17); have k17 := (b17.ext F.out).cell; have k17l := (b17.ext F.out).lt))
 go_ret
 exact ⟨rfl, EE.out.trans F.out⟩
end Go.Proofs.YtkhjmedfhobebaaGreat
