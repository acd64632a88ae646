/- Walks of the program: the short stretches, those that are apart, the one that shows a clash, and how many sacks a count can have, or the errors. The lists are not longer than 1000. -/
import Derived.Test.YtkhjmedfhobebaaGreatDoP
import Derived.Test.YtkhjmedfhobebaaGreatMathN
namespace Go.Proofs.YtkhjmedfhobebaaGreat
open Go.RowKit HandSpec
set_option maxHeartbeats 1600000
set_option maxRecDepth 100000
theorem short_ok {x : WD} {w : World} {v : Value} (hv : IsW w v x) (h1 : x.cn ≤ 1000) (h2 : x.bn ≤ 1000) (h3 : x.sn ≤ 1000) (hc : P.chk x = 0) :
  Calls Tryz.prog 47 #[v] w fun e w' => ∃ u, e = .returned (.tuple #[u, .int .i64 0]) ∧ Ext w w' ∧ SlR w' 2 u (rows2 (R.short x)) := by
 have HV := hid hv
 obtain ⟨A1, c1, A2, c2, A3, c3, rfl, r1, r2, r3⟩ := hv
 clear r1 r2 r3
 have hx := Ok.of_chk hc
 have HC := hid hc
 clear hc
 go_enter Tryz.func47, Tryz.ntmps47
 go_wp2_with (first
  | (go_at_call 136; refine (opened_ok (HV.out.ext ((Ext.refl _).alloc _)) h1 h2 h3 HC.out).mono ?_; rintro e w1 ⟨u, rfl, he1, hu⟩; obtain ⟨he1, hb⟩ := he1.newB; have HU := hid hu; clear hu)
  | (go_at_call 142; refine (shortP_any hx HU.out).mono ?_; rintro e w2 ⟨va, rfl, he2, hp⟩))
 go_ret2
 rw [keep_short hx] at hp
 exact ⟨_, rfl, he1.trans he2, hp.slR⟩
theorem clashesX_chk {x : WD} {w : World} {v : Value} (hv : IsW w v x) (h1 : x.cn ≤ 1000) (h2 : x.bn ≤ 1000) (h3 : x.sn ≤ 1000) (hc : P.chk x ≠ 0) :
  Calls Tryz.prog 50 #[v] w fun e w' => e = .returned (.tuple #[.agg #[.int .i64 0, .int .i64 0], .int .i64 (P.chk x)]) ∧ Ext w w' := by
 have HV := hid hv
 obtain ⟨A1, c1, A2, c2, A3, c3, rfl, r1, r2, r3⟩ := hv
 clear r1 r2 r3
 have hne : (P.chk x == 0) = false := by simpa using hc
 have HC := hid hc
 clear hc
 go_enter Tryz.func50, Tryz.ntmps50
 go_upto_region 1 with fail
 refine wp_later fun w0 hw0 => ?_
 obtain ⟨E0, b1, b2⟩ := hw0.newB2
 have k1 := b1.cell
 have k1l := b1.lt
 clear hw0
 go_wp2_with (go_at_call 136; refine (opened_bad (HV.out.ext E0) h1 h2 h3 HC.out).mono ?_; rintro e w1 ⟨rfl, he1⟩; have k2 := (b2.ext he1).cell; have k2l := (b2.ext he1).lt; have f2 := (b2.ext he1).frozen)
 try rw [Exit.noGoto_ret]
 exact bodyPost_ret (v := .tuple #[.agg #[.int .i64 0, .int .i64 0], .int .i64 (P.chk x)]) (by simp [results, Tryz.results50, go_sem, k2]) rfl ⟨rfl, ((E0.trans he1).setCell _ (by simp)).setCell _ (by simp)⟩
theorem clashesX_none {x : WD} {w : World} {v : Value} (hv : IsW w v x) (h1 : x.cn ≤ 1000) (h2 : x.bn ≤ 1000) (h3 : x.sn ≤ 1000) (hc : P.chk x = 0) (hs : R.clashes x = none) :
  Calls Tryz.prog 50 #[v] w fun e w' => e = .returned (.tuple #[.agg #[.int .i64 0, .int .i64 0], .int .i64 6]) ∧ Ext w w' := by
 have HV := hid hv
 obtain ⟨A1, c1, A2, c2, A3, c3, rfl, r1, r2, r3⟩ := hv
 clear r1 r2 r3
 have hx := Ok.of_chk hc
 have HC := hid hc
 have HS := hid hs
 clear hc hs
 go_enter Tryz.func50, Tryz.ntmps50
 go_upto_region 1 with fail
 refine wp_later fun w0 hw0 => ?_
 obtain ⟨E0, b1, b2⟩ := hw0.newB2
 have k1 := b1.cell
 have k1l := b1.lt
 clear hw0
 go_wp2_with (first
  | (go_at_call 136; refine (opened_ok (HV.out.ext E0) h1 h2 h3 HC.out).mono ?_; rintro e w1 ⟨u, rfl, he1, hu⟩; have HU := hid hu; clear hu; have k2 := (b2.ext he1).cell; have k2l := (b2.ext he1).lt; have f2 := (b2.ext he1).frozen)
  | (go_at_call 145; refine (clashesP_any hx HU.out).mono ?_; rintro e w2 ⟨rfl, he2⟩; rw [HS.out]; have k2 := ((b2.ext he1).ext he2).cell; have k2l := ((b2.ext he1).ext he2).lt; have f2 := ((b2.ext he1).ext he2).frozen))
 try rw [Exit.noGoto_ret]
 exact bodyPost_ret (v := .tuple #[.agg #[.int .i64 0, .int .i64 0], .int .i64 6]) (by simp [results, Tryz.results50, go_sem, k2, k2l]) rfl ⟨rfl, (((E0.trans (he1.trans he2)).setCell _ (by simp)).setCell _ (by simp)).alloc _⟩
theorem drop_at {l : List Nat} {k : Nat} (h : k < l.length) : l.drop k = l.getD k 0 :: l.drop (k+1) := by
 rw [List.drop_eq_getElem_cons h, List.getD_eq_getElem?_getD, List.getElem?_eq_getElem h]; rfl
theorem run144 {x : WD} (hx : Ok x) {w : World} {u sl v : Value} {g1 g2 : Nat} {L : List (Nat × Nat)} {s : List Nat} (hu : IsD w u x) (hb : Blk w g1 170 #[u]) (hb2 : Blk w g2 45 #[sl]) (hL : SlR w 2 sl (rows2 L))
  (hLv : ∀ p, p ∈ L → p.1 < p.2 ∧ p.2 < x.cn) (hv : SlR w 1 v (rows1 s)) (hs : ∀ i ∈ s, i < L.length) (hn : s.length ≤ 64) :
  Calls Tryz.prog 144 #[v, .pointer (some ⟨g1, 0, none⟩), .pointer (some ⟨g2, 0, none⟩)] w fun e w' => e = .returned (.bool (P.apOk x L 0 s)) ∧ Ext w w' := by
 obtain ⟨db, A1, c1, A2, c2, A3, c3, mb, M, rfl, hk, -, -, -, hmp, hl⟩ := hu
 obtain ⟨A, cap, rfl, hr⟩ := hv
 obtain ⟨B, capB, rfl, hrL⟩ := hL
 rw [rows1_length] at hr ⊢
 rw [rows2_length] at hrL hb2
 have HR := hid hr
 have HRL := hid hrL
 have HL := hid hl
 have HLV := hid hLv
 have HS := hid hs
 clear hr hrL hl hLv hs
 go_enter Tryz.func144, Tryz.ntmps144
 go_wp2_with fail
 go_loopw [5, 10] (fun s5 s10 wr => ∃ k m : Nat, k ≤ s.length ∧ m < 64 ∧ s10 = .int .i64 (k : Int) ∧ s5 = .int .i64 (m : Int) ∧ Hid (P.apOk x L 0 s = P.apOk x L m (s.drop k)) ∧ Ext w wr) (fun _ s10 _ => s.length - (intOf s10).toNat)
 case atStart => exact ⟨0, 0, Nat.zero_le _, by omega, rfl, rfl, rfl, Ext.refl _⟩
 case round =>
  obtain ⟨k, m, hk', hm, rfl, rfl, hd, he⟩ := hrel
  by_cases hlt : k < s.length
  ·obtain ⟨ab, ao, rfl, hab, a0⟩ := (HR.out.ext he).atN hlt
   have hmem : s.getD k 0 ∈ s := by rw [List.getD_eq_getElem?_getD, List.getElem?_eq_getElem hlt]; exact List.getElem_mem hlt
   have hiL := HS.out _ hmem
   have hdk := drop_at hlt
   obtain ⟨i, hi⟩ : ∃ i, i = s.getD k 0 := ⟨_, rfl⟩
   rw [← hi] at a0 hiL hdk
   clear hmem hi
   obtain ⟨bb, bo, rfl, hbb, e0, e1⟩ := (HRL.out.ext he).atP hiL
   have hv2 := HLV.out (nth L i) (by rw [nth_get L hiL]; exact List.getElem_mem hiL)
   have kd := (hk.ext he).cell
   have kdl := (hk.ext he).lt
   have k1 := (hb.ext he).cell
   have k1l := (hb.ext he).lt
   have k2 := (hb2.ext he).cell
   have k2l := (hb2.ext he).lt
   have hti := P.th_lt hx (nth L i).1 (nth L i).2
   have hand := and64 hm hti
   have hor := or64 hm hti
   have hlk : ∀ w1, Ext wr w1 → ∀ n : Later w1, (Instr.lookup 187 (.map (some mb)) (.agg #[.int .i64 ((nth L i).1 : Int), .int .i64 ((nth L i).2 : Int)]) false).run Tryz.prog n.at_ = .ok (.int .i64 (P.th x (nth L i).1 (nth L i).2 : Int)) n.at_ := fun w1 e n => by
    rw [lookup_run (hmp.ext (he.trans (e.trans n.ok))), HL.out _ _ hv2.1 hv2.2]
   have HLK := hid hlk
   have hkk : (k : Int) < (s.length : Int) := by omega
   have hii : (i : Int) < (L.length : Int) := by omega
   have HDK := hid hdk
   clear hlk hdk
   have hlk := HLK.out wr (Ext.refl _)
   by_cases hz : m &&& P.th x (nth L i).1 (nth L i).2 = 0
   ·have hq : (((m &&& P.th x (nth L i).1 (nth L i).2 : Nat) : Int) != 0) = false := by rw [hz]; rfl
    have HZ := hid hz
    clear hz
    go_upto_region 5 with fail
    refine wp_region_later (by kernel_rfl) (by kernel_rfl) ?_
    repeat (go_big_quiet_step (fail))
    refine wpQuiet_nil ?_
    rintro w5 ⟨⟨_, he5⟩, rfl⟩
    have e0 := he5.some_ e0
    have e1 := he5.some_ e1
    have kd := ((hk.ext he).ext he5).cell
    have kdl := ((hk.ext he).ext he5).lt
    have k1 := ((hb.ext he).ext he5).cell
    have k1l := ((hb.ext he).ext he5).lt
    have k2 := ((hb2.ext he).ext he5).cell
    have k2l := ((hb2.ext he).ext he5).lt
    have hbb := Nat.lt_of_lt_of_le hbb he5.size
    clear hlk
    have hlk := HLK.out w5 he5
    go_upto_region 7 with fail
    refine wp_region_later (by kernel_rfl) (by kernel_rfl) ?_
    repeat (go_big_quiet_step (fail))
    refine wpQuiet_nil ?_
    rintro _ ⟨⟨w6, he6⟩, rfl⟩
    go_wp2_with fail
    go_roundw
    case rel => exact ⟨k + 1, m ||| P.th x (nth L i).1 (nth L i).2, by omega, Nat.or_lt_two_pow (n := 6) hm hti, by go_num, rfl, hid (by rw [hd.out, HDK.out]; show (if _ then _ else _) = _; rw [if_neg (by simpa using HZ.out)]), he.trans (he5.trans he6)⟩
    case measure => simp [intOf]; omega
   ·have hq : (((m &&& P.th x (nth L i).1 (nth L i).2 : Nat) : Int) != 0) = true := by rw [bne_iff_ne]; omega
    have HZ := hid hz
    clear hz
    go_upto_region 5 with fail
    refine wp_region_later (by kernel_rfl) (by kernel_rfl) ?_
    repeat (go_big_quiet_step (fail))
    refine wpQuiet_nil ?_
    rintro _ ⟨⟨w5, he5⟩, rfl⟩
    go_wp2_with fail
    go_ret
    exact ⟨ret_bool (by rw [hd.out, HDK.out]; show false = (if _ then _ else _); rw [if_pos HZ.out]), he.trans he5⟩
  ·obtain rfl : k = s.length := by omega
   go_wp2_with fail
   go_ret
   exact ⟨ret_bool (by rw [hd.out, List.drop_length]; rfl), he⟩
theorem asks144 {x : WD} (hx : Ok x) {w : World} {u sl : Value} {g1 g2 : Nat} {L : List (Nat × Nat)} (hu : IsD w u x) (hb : Blk w g1 170 #[u]) (hb2 : Blk w g2 45 #[sl]) (hL : SlR w 2 sl (rows2 L)) (hLv : ∀ p, p ∈ L → p.1 < p.2 ∧ p.2 < x.cn) :
  AsksL w (.func (.func 144) #[] #[.pointer (some ⟨g1, 0, none⟩), .pointer (some ⟨g2, 0, none⟩)]) L.length (P.apOk x L 0) :=
 ⟨_, _, rfl, enters_ Tryz.func144 (by kernel_rfl) rfl, fun _ hl hn _ _ e hv => run144 hx (hu.ext e) (hb.ext e) (hb2.ext e) (hL.ext e) hLv hv hl hn⟩
end Go.Proofs.YtkhjmedfhobebaaGreat
namespace HandSpec
namespace P
theorem apartI_first {x : WD} {l : List (Nat × Nat)} {m : Nat} {out : List Nat} (h0 : 0 < m) (hm : m ≤ l.length) (h : ∀ j, j < l.length - m → pick (apOk x l 0) l.length (l.length - j) [] 0 = none) (ho : pick (apOk x l 0) l.length m [] 0 = some out) : apartI x l = out := by
 unfold apartI
 have e : (List.range l.length).findSome? (fun j => pick (apOk x l 0) l.length (l.length - j) [] 0) = some out := by
  obtain ⟨q, rfl⟩ : ∃ q, m = q + 1 := ⟨m - 1, by omega⟩
  rw [List.findSome?_eq_some_iff]
  refine ⟨List.range (l.length - (q + 1)), l.length - (q + 1), List.range' (l.length - (q + 1) + 1) q, ?_, ?_, fun j hj => h j (List.mem_range.1 hj)⟩
  ·have h4 := List.range'_append (s := 0) (m := l.length - (q + 1)) (n := q + 1) (step := 1)
   rw [Nat.zero_add, Nat.one_mul, show l.length - (q + 1) + (q + 1) = l.length by omega, List.range'_succ] at h4
   rw [List.range_eq_range', List.range_eq_range']
   exact h4.symm
  ·rw [show l.length - (l.length - (q + 1)) = q + 1 by omega]; exact ho
 rw [e]; rfl
theorem apartI_none {x : WD} {l : List (Nat × Nat)} (h : ∀ j, j < l.length → pick (apOk x l 0) l.length (l.length - j) [] 0 = none) : apartI x l = [] := by
 unfold apartI
 rw [List.findSome?_eq_none_iff.2 (fun e he => h e (by simpa using he))]
 rfl
end P
end HandSpec
namespace Go.Proofs.YtkhjmedfhobebaaGreat
open Go.RowKit HandSpec
set_option maxHeartbeats 1600000
set_option maxRecDepth 100000
theorem take_map_succ {L : List (Nat × Nat)} {s : List Nat} {k : Nat} (h : k < s.length) : rows2 ((s.take (k+1)).map (nth L)) = rows2 ((s.take k).map (nth L)) ++ [[((nth L (s.getD k 0)).1 : Int), ((nth L (s.getD k 0)).2 : Int)]] := by
 have e : s.take (k+1) = s.take k ++ [s.getD k 0] := by
  rw [List.take_add_one, List.getElem?_eq_getElem h, List.getD_eq_getElem?_getD, List.getElem?_eq_getElem h]; rfl
 rw [e, List.map_append, rows2_append]
 rfl
theorem apart_own {x : WD} {w : World} {v : Value} (hv : IsW w v x) (h1 : x.cn ≤ 1000) (h2 : x.bn ≤ 1000) (h3 : x.sn ≤ 1000) (hc : P.chk x = 0) :
  Calls Tryz.prog 49 #[v] w fun e w' => ∃ u B, e = .returned (.tuple #[u, .int .i64 0]) ∧ Ext w w' ∧ OwnR w' B 51 2 u (rows2 (P.apart x)) := by
 have hmf : ∀ (fn : Fn) (first cap : Array Value) (w : World), (Instr.makeFunc fn first cap).run Tryz.prog w = .ok (.func fn first cap) w := fun _ _ _ _ => rfl
 have HV := hid hv
 obtain ⟨A1, c1, A2, c2, A3, c3, rfl, r1, r2, r3⟩ := hv
 clear r1 r2 r3
 have hx := Ok.of_chk hc
 have HC := hid hc
 clear hc
 have HL : Hid (P.apart x = (P.apartI x (P.smallest x)).map (nth (P.smallest x))) := hid rfl
 have hll : (P.smallest x).length ≤ 28 := by rw [smallest_eq hx]; exact smallest_len hx
 have HM := hid (fun p (hp : p ∈ P.smallest x) => smallest_mem hp)
 obtain ⟨L, hL⟩ : ∃ L, P.smallest x = L := ⟨_, rfl⟩
 rw [hL] at HL hll HM
 have HLL := hid hL
 clear hL
 go_enter Tryz.func49, Tryz.ntmps49
 go_upto_region 2 with (go_at_call 136; refine (opened_ok (HV.out.ext ((Ext.refl _).alloc _)) h1 h2 h3 HC.out).mono ?_; rintro e w1 ⟨u, rfl, he1, hu⟩; obtain ⟨E1, hb⟩ := he1.newB; have HU := hid hu; obtain ⟨db, B1, d1, B2, d2, B3, d3, mb, M, rfl, -, -, -, -, -, -⟩ := hu)
 refine wp_later fun w2 hw2 => ?_
 obtain ⟨E2, hb4⟩ := hw2.newB
 have k4 := hb4.cell
 have k4l := hb4.lt
 clear hw2
 go_upto_region 5 with (go_at_call 143; refine (smallestP_any hx (HU.out.ext E2)).mono ?_; rintro e w3 ⟨us, rfl, he3, hp⟩; have SL := hid hp.slR; clear hp; rw [HLL.out] at SL; obtain ⟨B, cap, rfl, hrL⟩ := SL.out; rw [rows2_length] at hrL ⊢)
 have HRL := hid hrL
 clear hrL
 refine wp_later fun w4 hw4 => ?_
 obtain ⟨E4, hb6⟩ := hw4.newB
 clear hw4 k4 k4l
 have HA := hid (asks144 hx ((HU.out.ext E2).ext (he3.trans E4)) (hb4.ext (he3.trans E4)) hb6 (by have := SL.out.ext E4; rw [← rows2_length L] ; exact this) HM.out)
 have hst : (store ⟨w4.heap.size, 0, none⟩ (.func (.func 144) #[] #[.pointer (some ⟨w1.heap.size, 0, none⟩), .pointer (some ⟨w3.heap.size, 0, none⟩)])).run Tryz.prog (w4.alloc (.cells #[.nilFunc] 182))
   = .ok () ((w4.alloc (.cells #[.nilFunc] 182)).setCell ⟨w4.heap.size, 0, none⟩ (.func (.func 144) #[] #[.pointer (some ⟨w1.heap.size, 0, none⟩), .pointer (some ⟨w3.heap.size, 0, none⟩)])) := by
  have b2 := Blk.new w4 182 #[.nilFunc]
  have k := b2.cell 0
  have f := b2.frozen 0
  rw [run_store _ _ _ _ _ (by rfl), k, f]; rfl
 go_upto_region 6 with fail
 refine wp_later fun w5 hw5 => ?_
 obtain ⟨E5, b7⟩ := hw5.newB
 have k6 := (hb6.ext E5).cell
 have k6l := (hb6.ext E5).lt
 have EE := hid (E1.trans (E2.trans (he3.trans (E4.trans E5))))
 have HB6 := hid (hb6.ext E5)
 have HRL := hid ((HRL.out.ext E4).ext E5)
 have HA := hid (HA.out.ext E5)
 have B7 := hid b7
 clear hst hw5 hb hb4 hb6 b7 E1 E2 he1 he3 E4 E5
 go_wp2
 go_loopw [8] (fun s8 wr => ∃ m : Nat, m ≤ L.length ∧ s8 = .int .i64 (m : Int) ∧ Hid (∀ j, j < L.length - m → P.pick (P.apOk x L 0) L.length (L.length - j) [] 0 = none) ∧ Ext w5 wr) (fun s8 _ => (intOf s8).toNat)
 case atStart => exact ⟨L.length, Nat.le_refl _, rfl, fun _ h => absurd h (by omega), Ext.refl _⟩
 case round =>
  clear k6 k6l
  obtain ⟨m, hm, rfl, hp, he⟩ := hrel
  have k6 := (HB6.out.ext he).cell
  have k6l := (HB6.out.ext he).lt
  have k7 := (B7.out.ext he).cell
  have k7l := (B7.out.ext he).lt
  by_cases h0 : 0 < m
  ·have hmi : (0 : Int) < (m : Int) := by omega
   have HLC := hid (lists_any (w := wr) (many := m) (HA.out.ext he) (by omega) (show L.length ≤ 64 by omega))
   cases hpk : P.pick (P.apOk x L 0) L.length m [] 0 with
   | none =>
    have HP := hid hpk
    clear hpk
    have HMC := hid (show (m : Int) - 1 = ((m - 1 : Nat) : Int) by omega)
    go_wp2_with (go_at_call 133; refine HLC.out.mono ?_; rintro e w6 ⟨he6, vd, rfl, hu6⟩; rw [HP.out])
    go_roundw
    case rel => exact ⟨m - 1, by omega, by rw [HMC.out], hid fun j hj => by
     rcases Nat.lt_or_ge j (L.length - m) with h | h
     ·exact hp.out j h
     ·rw [show L.length - j = m by omega]; exact HP.out, he.trans he6⟩
    case measure => simp [intOf]; omega
   | some out =>
    have HO := hid (P.apartI_first h0 hm hp.out hpk)
    obtain ⟨t, ho1, ho2, ho3, -, -⟩ := F.pick_some hpk
    rw [List.nil_append] at ho1
    subst ho1
    have HOL := hid (fun i (hi : i ∈ out) => (ho3.2 i hi).2)
    have hol : out.length ≤ 28 := by omega
    clear ho2
    have HP := hid hpk
    clear hpk ho3
    go_upto_region 11 with (go_at_call 133; refine HLC.out.mono ?_; rintro e w6 ⟨he6, vd, rfl, hu6⟩; rw [HP.out]; have HS := hid (hu6 _ HP.out); clear hu6)
    obtain ⟨C, capC, rfl, hrC⟩ := HS.out
    rw [rows1_length] at hrC ⊢
    have HRC := hid hrC
    clear hrC
    go_wp2_with fail
    go_loopw [11, 43] (fun s11 s43 wq => ∃ k : Nat, k ≤ out.length ∧ s43 = .int .i64 (k : Int) ∧ OwnR wq w6.heap.size 51 2 s11 (rows2 ((out.take k).map (nth L))) ∧ Ext w6 wq) (fun _ s43 _ => out.length - (intOf s43).toNat)
    case atStart => exact ⟨0, Nat.zero_le _, rfl, by simpa [rows2] using OwnR.nil, Ext.refl _⟩
    case round =>
     clear k6 k6l k7 k7l
     obtain ⟨k, hk, rfl, hown, hq⟩ := hrel
     have HOWN := hid hown
     clear hown
     have k6 := (HB6.out.ext (he.trans (he6.trans hq))).cell
     have k6l := (HB6.out.ext (he.trans (he6.trans hq))).lt
     by_cases hlt : k < out.length
     ·obtain ⟨cb, co, rfl, hcb, c0⟩ := (HRC.out.ext hq).atN hlt
      have hmem : out.getD k 0 ∈ out := by rw [List.getD_eq_getElem?_getD, List.getElem?_eq_getElem hlt]; exact List.getElem_mem hlt
      have hiL := HOL.out _ hmem
      have HT := hid (take_map_succ (L := L) hlt)
      obtain ⟨i, hi⟩ : ∃ i, i = out.getD k 0 := ⟨_, rfl⟩
      rw [← hi] at c0 hiL HT
      clear hmem hi
      obtain ⟨bb, bo, rfl, hbb, e0, e1⟩ := (HRL.out.ext (he.trans (he6.trans hq))).atP hiL
      have hkk : (k : Int) < (out.length : Int) := by omega
      have hii : (i : Int) < (L.length : Int) := by omega
      go_wp2_with (at_builtin; refine wpList_append_rows rfl _ _ 45 rfl el45 rfl (HOWN.out.ext (Ext.alloc (Ext.refl _) _)) _ 1 1 [[((nth L i).1 : Int), ((nth L i).2 : Int)]] rfl rfl (by simp) (by intro j; simp [cellsOf]) (by rw [rows2_length, List.length_map, List.length_take]; omega) (by have := hq.size; simp; omega) ?_; intro v' w8 hown2 hg2)
      go_roundw
      case rel => exact ⟨k + 1, by omega, by go_num, by rw [HT.out]; exact hown2, (hq.alloc _).grown hg2 fun g hg => HOWN.out.block hg⟩
      case measure => simp [intOf]; omega
     ·obtain rfl : k = out.length := by omega
      go_wp2_with fail
      go_ret2
      exact ⟨_, _, rfl, EE.out.trans (he.trans (he6.trans hq)), by rw [HL.out, HO.out]; have h := HOWN.out; rw [List.take_length] at h; exact h⟩
  ·obtain rfl : m = 0 := by omega
   go_wp2_with fail
   go_ret2
   exact ⟨_, 0, rfl, EE.out.trans he, by rw [HL.out, P.apartI_none (fun j hj => hp.out j (by omega))]; exact OwnR.nil⟩
theorem apart_ok {x : WD} {w : World} {v : Value} (hv : IsW w v x) (h1 : x.cn ≤ 1000) (h2 : x.bn ≤ 1000) (h3 : x.sn ≤ 1000) (hc : P.chk x = 0) :
  Calls Tryz.prog 49 #[v] w fun e w' => ∃ u, e = .returned (.tuple #[u, .int .i64 0]) ∧ Ext w w' ∧ SlR w' 2 u (rows2 (P.apart x)) :=
 (apart_own hv h1 h2 h3 hc).mono fun _ _ ⟨u, _, h4, h5, h6⟩ => ⟨u, h4, h5, h6.slR⟩
end Go.Proofs.YtkhjmedfhobebaaGreat
namespace HandSpec
namespace P
theorem al_bd {x : WD} (hx : Ok x) {a b : Nat} (hab : a ≤ b) (hb : b < x.cn) : 0 ≤ x.allow * (x.c b 0 - x.c a 0) ∧ x.allow * (x.c b 0 - x.c a 0) ≤ 1200 := by
 have g1 := hx.hour a (by omega)
 have g2 := hx.hour b hb
 have g3 := hx.hours
 have g4 := hx.leq hab hb
 obtain ⟨h3, h4⟩ := hx.allow
 refine ⟨Int.mul_nonneg h3 (by omega), ?_⟩
 have := Int.mul_le_mul_of_nonneg_left (show x.c b 0 - x.c a 0 ≤ 60 by omega) h3
 omega
theorem wLo_bd {x : WD} (hx : Ok x) {k : Nat} (hk : k < x.cn) : ∀ n, n ≤ x.cn → 0 ≤ wLo x k n ∧ wLo x k n ≤ 16500
 | 0, _ => by have := hx.lo k hk; show 0 ≤ x.c k 1 ∧ x.c k 1 ≤ _; omega
 | n+1, hn => by
  have ih := wLo_bd hx hk n (by omega)
  have h3 := hx.lo n (by omega)
  have h4 := books_bd hx n k hk
  have h5 := books_bd hx k n (by omega)
  unfold wLo
  by_cases c : n < k
  ·have h6 := al_bd hx (Nat.le_of_lt c) hk
   rw [if_pos c]
   split <;> omega
  ·rw [if_neg c]
   split <;> omega
theorem wHi_bd {x : WD} (hx : Ok x) {k : Nat} (hk : k < x.cn) : ∀ n, n ≤ x.cn → -16000 ≤ wHi x k n ∧ wHi x k n ≤ 500
 | 0, _ => by have := hx.hi k hk; show _ ≤ x.c k 2 ∧ x.c k 2 ≤ _; omega
 | n+1, hn => by
  have ih := wHi_bd hx hk n (by omega)
  have h3 := hx.hi n (by omega)
  have h4 := books_bd hx n k hk
  have h5 := books_bd hx k n (by omega)
  unfold wHi
  by_cases c : n < k
  ·rw [if_pos c]; omega
  ·rw [if_neg c]
   by_cases c2 : k < n
   ·have h6 := al_bd hx (Nat.le_of_lt c2) (show n < x.cn by omega)
    rw [if_pos c2]
    split <;> omega
   ·rw [if_neg c2]; omega
end P
end HandSpec
namespace Go.Proofs.YtkhjmedfhobebaaGreat
open Go.RowKit HandSpec
set_option maxHeartbeats 1600000
set_option maxRecDepth 100000
def badC (x : WD) (n : Int) : Bool := !inB n 0 ((x.cn : Int) - 1)
theorem within_err {x : WD} {w : World} {v : Value} (hv : IsW w v x) (h1 : x.cn ≤ 1000) (h2 : x.bn ≤ 1000) (h3 : x.sn ≤ 1000) (n : Int) (he : P.toldE x (badC x n) ≠ 0) :
  Calls Tryz.prog 51 #[v, .int .i64 n] w fun e w' => e = .returned (.tuple #[.agg #[.int .i64 0, .int .i64 0], .int .i64 (P.toldE x (badC x n))]) ∧ Ext w w' := by
 have HV := hid hv
 obtain ⟨A1, c1, A2, c2, A3, c3, rfl, r1, r2, r3⟩ := hv
 clear r1 r2 r3
 have hne : (P.toldE x (badC x n) == 0) = false := by simpa using he
 have hne2 : (P.toldE x (badC x n) != 0) = true := by simpa using he
 have HE := hid he
 clear he
 go_enter Tryz.func51, Tryz.ntmps51
 go_upto_region 1 with fail
 refine wp_later fun w0 hw0 => ?_
 obtain ⟨E0, b1, b4⟩ := hw0.newB2
 have k1 := b1.cell
 have k1l := b1.lt
 clear hw0
 refine wp_region_later (by kernel_rfl) (by kernel_rfl) ?_
 repeat (go_big_quiet_step ((first
  | (go_at_call 146; exact Calls.later (count_any (HV.out.ext (E0.trans (Later.ext _))) h1 n))
  | (go_at_call 120; exact Calls.later (told_err (HV.out.ext (E0.trans (Later.ext _))) h1 h2 h3 (badC x n) HE.out)))))
 refine wpQuiet_nil ?_
 rintro w2 ⟨⟨_, he2⟩, rfl⟩
 have k4 := (b4.ext he2).cell
 have k4l := (b4.ext he2).lt
 have f4 := (b4.ext he2).frozen
 go_wp2
 try rw [Exit.noGoto_ret]
 exact bodyPost_ret (v := .tuple #[.agg #[.int .i64 0, .int .i64 0], .int .i64 (P.toldE x (badC x n))]) (by simp [results, Tryz.results51, go_sem, k4]) rfl ⟨rfl, ((E0.trans he2).setCell _ (by simp)).setCell _ (by simp)⟩
theorem within_ok {x : WD} {w : World} {v : Value} (hv : IsW w v x) (h1 : x.cn ≤ 1000) (h2 : x.bn ≤ 1000) (h3 : x.sn ≤ 1000) {k : Nat} (hk : k < x.cn) (he : P.toldE x false = 0) :
  Calls Tryz.prog 51 #[v, .int .i64 (k : Int)] w fun e w' => e = .returned (.tuple #[.agg #[.int .i64 (P.lo x k), .int .i64 (P.hi x k)], .int .i64 0]) ∧ Ext w w' := by
 have HV := hid hv
 obtain ⟨A1, c1, A2, c2, A3, c3, rfl, r1, r2, r3⟩ := hv
 clear r1 r2 r3
 have hx := Ok.of_chk (P.toldE_ok he).1
 have hcn := hx.cn
 have HI := hid (show inB (k : Int) 0 ((x.cn : Int) - 1) = true by simp [inB]; omega)
 have HE := hid he
 clear he
 go_enter Tryz.func51, Tryz.ntmps51
 go_upto_region 1 with fail
 refine wp_later fun w0 hw0 => ?_
 obtain ⟨E0, b1, b4⟩ := hw0.newB2
 have k1 := b1.cell
 have k1l := b1.lt
 clear hw0
 refine wp_region_mono 11 [(3, fun v _ _ _ => v = .bool true), (5, toldU 0 x)] (by kernel_rfl) (by kernel_rfl) (by kernel_rfl) ?hS ?_
 case hS =>
  simp only [List.forall_mem_cons]
  exact ⟨fun _ _ _ _ _ _ h => h, fun _ _ _ _ _ e h => toldU.ext h e, fun _ h => by simp at h⟩
 simp only [List.take_succ_cons, List.drop_succ_cons, List.take_nil, List.drop_nil]
 refine wpM_plain rfl ?_
 go_big_quiet_step (fail)
 refine wpQuiet_nil ?_
 refine wpM_plain rfl ?_
 go_big_quiet_step (fail)
 refine wpQuiet_nil ?_
 refine wpM_plain rfl ?_
 go_big_quiet_step (fail)
 refine wpQuiet_nil ?_
 refine wpM_spec _ rfl rfl (fun w2 hw2 _ => ?_) (fun va la ha ga1 ga2 _ hva => ?_)
 ·go_wp2_with (go_at_call 146; refine (count_any (HV.out.ext (E0.trans hw2)) h1 (k : Int)).mono ?_; rintro e w5 ⟨rfl, he5⟩; rw [HI.out])
  exact ⟨_, _, _, rfl, he5, Nat.le_refl _, he5.size, Nat.le_refl _, rfl⟩
 obtain ⟨_, rfl⟩ := hva
 simp only [Act.put, List.setIfInBounds_toArray, List.set_cons_succ, List.set_cons_zero]
 refine wpM_plain rfl ?_
 go_big_quiet_step (fail)
 refine wpQuiet_nil ?_
 refine wpM_spec _ rfl rfl (fun w2 hw2 _ => ?_) (fun va la ha ga1 ga2 _ hva => ?_)
 ·go_wp2_with (go_at_call 120; refine (told_ok (HV.out.ext (E0.trans hw2)) h1 h2 h3 false HE.out).mono ?_; rintro e w5 ⟨u, rfl, he5, hu⟩)
  exact ⟨_, _, _, rfl, he5, Nat.le_refl _, he5.size, Nat.le_refl _, u, rfl, hu⟩
 obtain ⟨_, u, rfl, -⟩ := hva
 simp only [Act.put, List.setIfInBounds_toArray, List.set_cons_succ, List.set_cons_zero]
 refine wpM_plain rfl ?_
 go_big_quiet_step (fail)
 refine wpQuiet_nil ?_
 refine wpM_plain rfl ?_
 go_big_quiet_step (fail)
 refine wpQuiet_nil ?_
 refine wpM_plain rfl ?_
 go_big_quiet_step (fail)
 refine wpQuiet_nil ?_
 refine wpM_plain rfl ?_
 go_big_quiet_step (fail)
 refine wpQuiet_nil ?_
 refine wpM_plain rfl ?_
 go_big_quiet_step (fail)
 refine wpQuiet_nil ?_
 refine wpM_nil fun w6 hw6 hF => ?_
 simp only [List.forall_mem_cons] at hF
 obtain ⟨⟨-, u', hq, hu⟩, -⟩ := hF
 obtain rfl : u = u' := by simpa using hq
 have HU := hid hu
 obtain ⟨db, B1, d1, B2, d2, B3, d3, mb, M, rfl, hd, r1, -, -, hmp, hl⟩ := hu
 have HL := hid hl
 clear hq hl
 obtain ⟨cb, co, rfl, hcb, a0, a1, a2⟩ := r1.at3 hk
 have R1 := hid r1
 obtain ⟨A1', c1', A2', c2', A3', c3', hvq, v1, -, -⟩ := HV.out
 simp only [Value.agg.injEq, Array.mk.injEq, List.cons.injEq, Value.slice.injEq, true_and, and_true] at hvq
 obtain ⟨⟨rfl, rfl⟩, ⟨rfl, rfl⟩, ⟨rfl, rfl⟩⟩ := hvq
 have V1 := hid (v1.ext (E0.trans hw6))
 clear v1
 obtain ⟨eb, eo, rfl, heb, z0, z1, z2⟩ := V1.out.at3 hk
 have k1 := (b1.ext hw6).cell
 have k1l := (b1.ext hw6).lt
 have hki : (k : Int) < (x.cn : Int) := by omega
 clear r1
 go_upto_region 5 with fail
 refine wp_later fun w7 hw7 => ?_
 obtain ⟨E7, b8⟩ := hw7.newB
 have B1 := hid (b1.ext hw6)
 have k1 := (b1.ext (hw6.trans E7)).cell
 have k1l := (b1.ext (hw6.trans E7)).lt
 clear a0 a1 a2 z0 z1 z2 hw7 hcb heb
 go_wp2_with fail
 go_loopw [34] (fun s34 wr => ∃ j : Nat, j ≤ x.cn ∧ s34 = .int .i64 (j : Int) ∧ Ext w6 wr ∧ Blk wr w6.heap.size 67 #[.int .i64 (P.wLo x k j), .int .i64 (P.wHi x k j)]) (fun s34 _ => x.cn - (intOf s34).toNat)
 case atStart => exact ⟨0, Nat.zero_le _, rfl, E7, b8⟩
 case round =>
  clear b8 k1 k1l
  obtain ⟨j, hj, rfl, he, b8⟩ := hrel
  have q1 := P.wLo_bd hx hk j hj
  have q2 := P.wHi_bd hx hk j hj
  have k1 := (B1.out.ext he).cell
  have k1l := (B1.out.ext he).lt
  by_cases hlt : j < x.cn
  ·obtain ⟨eb', eo', hq, heb, z0, z1, z2⟩ := (V1.out.ext he).at3 hlt
   obtain ⟨rfl, rfl⟩ := same_addr hq rfl
   clear hq
   have q3 := hx.hi j hlt
   have q4 := hx.lo j hlt
   have q5 := hx.hi k hk
   have hji : (j : Int) < (x.cn : Int) := by omega
   have y1 := hx.hour j hlt
   have y2 := hx.hour k hk
   have y3 := hx.hours
   have y4 := hx.allow
   go_upto_region 9 with fail
   refine wp_later fun w8 hw8 => ?_
   obtain ⟨E8, b10, b11⟩ := hw8.newB2
   have EE := hid (he.trans E8)
   have B8 := hid (b8.ext E8)
   have hz8 : w6.heap.size < wr.heap.size := b8.lt
   have kd := (hd.ext EE.out).cell
   have kdl := (hd.ext EE.out).lt
   have k1 := (B1.out.ext EE.out).cell
   have k1l := (B1.out.ext EE.out).lt
   have k8 := B8.out.cell
   have k8l := B8.out.lt
   have f8 := B8.out.frozen
   have k10 := b10.cell
   have k10l := b10.lt
   have k11 := b11.cell
   have k11l := b11.lt
   have z0 := E8.some_ z0
   have z1 := E8.some_ z1
   have z2 := E8.some_ z2
   have heb := Nat.lt_of_lt_of_le heb E8.size
   clear hw8 b8
   rcases Nat.lt_trichotomy j k with c | c | c
   ·have c1 : (j : Int) < (k : Int) := by omega
    have q6 := P.books_bd hx j k hk
    have q7 := P.al_bd hx (Nat.le_of_lt c) hk
    have HHI := hid (show P.wHi x k (j+1) = min (P.wHi x k j) (x.c j 2 + P.books x j k) from if_pos c)
    have HLO := hid (show P.wLo x k (j+1) = (if P.th x j k = 0 then max (P.wLo x k j) (x.c j 1 + P.books x j k - x.allow * (x.c k 0 - x.c j 0)) else P.wLo x k j) from if_pos c)
    have B10 := hid b10
    have B11 := hid b11
    clear b10 b11 z0 z1 z2 heb
    go_upto_region 10 with fail
    refine wp_region_tail 11 (by kernel_rfl) (by kernel_rfl) ?_
    simp only [List.take_succ_cons, List.take_zero, List.drop_succ_cons, List.drop_zero]
    repeat (go_big_quiet_step ((go_at_call 147; exact Calls.later (books_any hx ((HU.out.ext EE.out).ext (Later.ext _)) j k (Nat.le_of_lt c) hk))))
    refine wpQuiet_nil ?_
    rintro w9 ⟨⟨_, he9⟩, rfl⟩
    have EE := hid (EE.out.trans he9)
    have B8 := hid (B8.out.ext he9)
    have B10 := hid (B10.out.ext he9)
    have B11 := hid (B11.out.ext he9)
    clear kd kdl k1 k1l k8 k8l f8 k10 k10l k11 k11l
    have kd := (hd.ext EE.out).cell
    have kdl := (hd.ext EE.out).lt
    have k1 := (B1.out.ext EE.out).cell
    have k1l := (B1.out.ext EE.out).lt
    have k8 := B8.out.cell
    have k8l := B8.out.lt
    have f8 := B8.out.frozen
    have k10 := B10.out.cell
    have k10l := B10.out.lt
    have k11 := B11.out.cell
    have k11l := B11.out.lt
    go_upto_region 11 with fail
    refine wp_later fun w10 hw10 => ?_
    have hmin : (if x.c j 2 + P.books x j k < P.wHi x k j then x.c j 2 + P.books x j k else P.wHi x k j) = P.wHi x k (j+1) := by
     rw [HHI.out]; split <;> omega
    simp only [hmin] at hw10 ⊢
    clear hmin
    have EE := hid ((EE.out.setCell _ (p := ⟨w6.heap.size, 1, none⟩) (Nat.le_refl _)).trans hw10)
    have b8 := (B8.out.set_ 1 (.int .i64 (P.wHi x k (j+1)))).ext hw10
    simp only [List.setIfInBounds_toArray, List.set_cons_succ, List.set_cons_zero] at b8
    have B8 := hid b8
    have B10 := hid ((B10.out.far (p := ⟨w6.heap.size, 1, none⟩) (by simp; omega) (.int .i64 (P.wHi x k (j+1)))).ext hw10)
    have B11 := hid ((B11.out.far (p := ⟨w6.heap.size, 1, none⟩) (by simp; omega) (.int .i64 (P.wHi x k (j+1)))).ext hw10)
    clear b8 hw10
    clear kd kdl k1 k1l k8 k8l f8 k10 k10l k11 k11l
    have kd := (hd.ext EE.out).cell
    have kdl := (hd.ext EE.out).lt
    have k1 := (B1.out.ext EE.out).cell
    have k1l := (B1.out.ext EE.out).lt
    have k8 := B8.out.cell
    have k8l := B8.out.lt
    have f8 := B8.out.frozen
    have k10 := B10.out.cell
    have k10l := B10.out.lt
    have k11 := B11.out.cell
    have k11l := B11.out.lt
    have hlk : ∀ n : Later w10, (Instr.lookup 187 (.map (some mb)) (.agg #[.int .i64 (j : Int), .int .i64 (k : Int)]) false).run Tryz.prog n.at_ = .ok (.int .i64 (P.th x j k : Int)) n.at_ := fun n => by
     rw [lookup_run (hmp.ext (EE.out.trans n.ok)), HL.out j k c hk]
    by_cases hth : P.th x j k = 0
    ·have e3 : ((P.th x j k : Int) == 0) = true := by simp [hth]
     have HTH := hid hth
     clear hth
     refine wp_region_later (by kernel_rfl) (by kernel_rfl) ?_
     repeat (go_big_quiet_step (fail))
     refine wpQuiet_nil ?_
     rintro w11 ⟨⟨_, he11⟩, rfl⟩
     have EE := hid (EE.out.trans he11)
     have B8 := hid (B8.out.ext he11)
     have B10 := hid (B10.out.ext he11)
     have B11 := hid (B11.out.ext he11)
     clear hlk
     clear kd kdl k1 k1l k8 k8l f8 k10 k10l k11 k11l
     have kd := (hd.ext EE.out).cell
     have kdl := (hd.ext EE.out).lt
     have k1 := (B1.out.ext EE.out).cell
     have k1l := (B1.out.ext EE.out).lt
     have k8 := B8.out.cell
     have k8l := B8.out.lt
     have f8 := B8.out.frozen
     have k10 := B10.out.cell
     have k10l := B10.out.lt
     have k11 := B11.out.cell
     have k11l := B11.out.lt
     obtain ⟨_, _, hq, heb, y0, y1, y2⟩ := (V1.out.ext EE.out).at3 hk
     obtain ⟨rfl, rfl⟩ := same_addr hq rfl
     clear hq
     go_upto_region 12 with fail
     refine wp_region_mono 28 [(7, fun v _ _ _ => v = .int .i64 (P.books x j k)), (10, fun v _ _ _ => v = .pointer (some ⟨db, 0, none⟩)), (25, S1 (x.c j 1 + P.books x j k - x.allow * (x.c k 0 - x.c j 0))), (26, fun v _ _ _ => v = .int .i64 (max (P.wLo x k j) (x.c j 1 + P.books x j k - x.allow * (x.c k 0 - x.c j 0))))] (by kernel_rfl) (by kernel_rfl) (by kernel_rfl) ?hS ?_
     case hS =>
      simp only [List.forall_mem_cons]
      exact ⟨fun _ _ _ _ _ _ h => h, fun _ _ _ _ _ _ h => h, fun _ _ _ _ _ e h => S1.ext h e, fun _ _ _ _ _ _ h => h, fun _ h => by simp at h⟩
     simp only [List.take_succ_cons, List.take_zero, List.drop_succ_cons, List.drop_zero]
     refine wpM_plain rfl ?_
     go_big_quiet_step (fail)
     refine wpQuiet_nil ?_
     refine wpM_plain rfl ?_
     go_big_quiet_step (fail)
     refine wpQuiet_nil ?_
     refine wpM_plain rfl ?_
     go_big_quiet_step (fail)
     refine wpQuiet_nil ?_
     refine wpM_plain rfl ?_
     go_big_quiet_step (fail)
     refine wpQuiet_nil ?_
     refine wpM_plain rfl ?_
     go_big_quiet_step (fail)
     refine wpQuiet_nil ?_
     refine wpM_plain rfl ?_
     go_big_quiet_step (fail)
     refine wpQuiet_nil ?_
     refine wpM_plain rfl ?_
     go_big_quiet_step (fail)
     refine wpQuiet_nil ?_
     refine wpM_spec _ rfl rfl (fun w4 hw4 _ => ?_) (fun va la ha ga1 ga2 _ hva => ?_)
     ·go_wp2_with (go_at_call 147; refine (books_any hx (HU.out.ext (EE.out.trans hw4)) j k (Nat.le_of_lt c) hk).mono ?_; rintro e w5 ⟨rfl, he5⟩)
      exact ⟨_, _, _, rfl, he5, Nat.le_refl _, he5.size, Nat.le_refl _, rfl⟩
     obtain ⟨_, rfl⟩ := hva
     simp only [Act.put, List.setIfInBounds_toArray, List.set_cons_succ, List.set_cons_zero]
     refine wpM_plain rfl ?_
     go_big_quiet_step (fail)
     refine wpQuiet_nil ?_
     refine wpM_plain rfl ?_
     go_big_quiet_step (fail)
     refine wpQuiet_nil ?_
     refine wpM_spec _ rfl rfl (fun w4 hw4 _ => ?_) (fun va la ha ga1 ga2 _ hva => ?_)
     ·go_wp2
      exact ⟨_, w4.heap.size, w4.heap.size, rfl, Ext.refl _, Nat.le_refl _, Nat.le_refl _, Nat.le_refl _, rfl⟩
     obtain ⟨_, rfl⟩ := hva
     simp only [Act.put, List.setIfInBounds_toArray, List.set_cons_succ, List.set_cons_zero]
     refine wpM_plain rfl ?_
     go_big_quiet_step (fail)
     refine wpQuiet_nil ?_
     refine wpM_plain rfl ?_
     go_big_quiet_step (fail)
     refine wpQuiet_nil ?_
     refine wpM_plain rfl ?_
     go_big_quiet_step (fail)
     refine wpQuiet_nil ?_
     refine wpM_plain rfl ?_
     go_big_quiet_step (fail)
     refine wpQuiet_nil ?_
     refine wpM_plain rfl ?_
     go_big_quiet_step (fail)
     refine wpQuiet_nil ?_
     refine wpM_plain rfl ?_
     go_big_quiet_step (fail)
     refine wpQuiet_nil ?_
     refine wpM_plain rfl ?_
     go_big_quiet_step (fail)
     refine wpQuiet_nil ?_
     refine wpM_plain rfl ?_
     go_big_quiet_step (fail)
     refine wpQuiet_nil ?_
     refine wpM_plain rfl ?_
     go_big_quiet_step (fail)
     refine wpQuiet_nil ?_
     refine wpM_plain rfl ?_
     go_big_quiet_step (fail)
     refine wpQuiet_nil ?_
     refine wpM_plain rfl ?_
     go_big_quiet_step (fail)
     refine wpQuiet_nil ?_
     refine wpM_plain rfl ?_
     go_big_quiet_step (fail)
     refine wpQuiet_nil ?_
     refine wpM_plain rfl ?_
     go_big_quiet_step (fail)
     refine wpQuiet_nil ?_
     refine wpM_plain rfl ?_
     go_big_quiet_step (fail)
     refine wpQuiet_nil ?_
     refine wpM_spec _ rfl rfl (fun w4 hw4 _ => ?_) (fun va la ha ga1 ga2 _ hva => ?_)
     ·go_wp2
      exact ⟨_, w4.heap.size, w4.heap.size + 1, rfl, (Ext.refl _).alloc _, Nat.le_refl _, Nat.le_succ _, by simp, w4.heap.size, rfl, Blk.new _ _ _⟩
     simp only [Act.put, List.setIfInBounds_toArray, List.set_cons_succ, List.set_cons_zero]
     obtain ⟨_, gs, rfl, -⟩ := hva
     refine wpM_spec _ rfl rfl (fun w4 hw4 hF => ?_) (fun va la ha ga1 ga2 _ hva => ?_)
     ·simp only [List.forall_mem_cons] at hF
      obtain ⟨-, g2, hq2, hb2⟩ := hF.1 (by kernel_rfl)
      obtain rfl : gs = g2 := by simpa using hq2
      go_wp2_with (go_at_call 148; refine (greatest_one hb2).mono ?_; rintro e w5 ⟨rfl, he5⟩)
      exact ⟨_, _, _, rfl, he5, Nat.le_refl _, he5.size, Nat.le_refl _, rfl⟩
     obtain ⟨_, rfl⟩ := hva
     simp only [Act.put, List.setIfInBounds_toArray, List.set_cons_succ, List.set_cons_zero]
     refine wpM_plain rfl ?_
     go_big_quiet_step (fail)
     refine wpQuiet_nil ?_
     refine wpM_nil fun w12 hw12 _ => ?_
     have EE := hid (EE.out.trans hw12)
     have B8 := hid (B8.out.ext hw12)
     have B10 := hid (B10.out.ext hw12)
     have B11 := hid (B11.out.ext hw12)
     clear kd kdl k1 k1l k8 k8l f8 k10 k10l k11 k11l
     have kd := (hd.ext EE.out).cell
     have kdl := (hd.ext EE.out).lt
     have k1 := (B1.out.ext EE.out).cell
     have k1l := (B1.out.ext EE.out).lt
     have k8 := B8.out.cell
     have k8l := B8.out.lt
     have f8 := B8.out.frozen
     have k10 := B10.out.cell
     have k10l := B10.out.lt
     have k11 := B11.out.cell
     have k11l := B11.out.lt
     go_wp2_with fail
     go_roundw
     case rel => exact ⟨j + 1, by omega, by go_num, EE.out.setCell _ (p := ⟨w6.heap.size, 0, none⟩) (Nat.le_refl _), by rw [HLO.out, if_pos HTH.out]; exact B8.out.set_ 0 _⟩
     case measure => simp [intOf]; omega
    ·have e3 : ((P.th x j k : Int) == 0) = false := by rw [beq_eq_false_iff_ne]; omega
     have HTH := hid hth
     clear hth
     refine wp_region_later (by kernel_rfl) (by kernel_rfl) ?_
     repeat (go_big_quiet_step (fail))
     refine wpQuiet_nil ?_
     rintro w11 ⟨⟨_, he11⟩, rfl⟩
     have EE := hid (EE.out.trans he11)
     have B8 := hid (B8.out.ext he11)
     go_wp2_with fail
     go_roundw
     case rel => exact ⟨j + 1, by omega, by go_num, EE.out, by rw [HLO.out, if_neg HTH.out]; exact B8.out⟩
     case measure => simp [intOf]; omega
   ·have c1 : ¬ (j : Int) < (k : Int) := by omega
    have c2 : ¬ (k : Int) < (j : Int) := by omega
    have HHI := hid (show P.wHi x k (j+1) = P.wHi x k j by unfold P.wHi; rw [if_neg (by omega), if_neg (by omega)]; cases j <;> rfl)
    have HLO := hid (show P.wLo x k (j+1) = P.wLo x k j by unfold P.wLo; rw [if_neg (by omega), if_neg (by omega)]; cases j <;> rfl)
    go_wp2_with fail
    go_roundw
    case rel => exact ⟨j + 1, by omega, by go_num, EE.out, by rw [HLO.out, HHI.out]; exact B8.out⟩
    case measure => simp [intOf]; omega
   ·have c1 : ¬ (j : Int) < (k : Int) := by omega
    have c2 : (k : Int) < (j : Int) := by omega
    have q6 := P.books_bd hx k j hlt
    have q7 := P.al_bd hx (Nat.le_of_lt c) hlt
    have HLO := hid (show P.wLo x k (j+1) = max (P.wLo x k j) (x.c j 1 - P.books x k j) by show (if _ then _ else _) = _; rw [if_neg (by omega), if_pos c])
    have HHI := hid (show P.wHi x k (j+1) = (if P.th x k j = 0 then min (P.wHi x k j) (x.c j 2 - P.books x k j + x.allow * (x.c j 0 - x.c k 0)) else P.wHi x k j) by show (if _ then _ else _) = _; rw [if_neg (by omega), if_pos c])
    have f11 := b11.frozen
    have B10 := hid b10
    have B11 := hid b11
    clear b10 b11 z0 z1 z2 heb
    go_upto_region 15 with fail
    refine wp_later fun w9 hw9 => ?_
    have hz9 : w6.heap.size ≤ wr.heap.size + 1 := by omega
    have EE := hid (((EE.out.setCell _ (p := ⟨wr.heap.size + 1, 0, none⟩) hz9).setCell _ (p := ⟨wr.heap.size + 1, 1, none⟩) hz9).trans hw9)
    have b11 := ((B11.out.set_ 0 (.int .i64 (k : Int))).set_ 1 (.int .i64 (j : Int))).ext hw9
    simp only [List.setIfInBounds_toArray, List.set_cons_succ, List.set_cons_zero] at b11
    have B11 := hid b11
    have B10 := hid (((B10.out.far (p := ⟨wr.heap.size + 1, 0, none⟩) (by simp) (.int .i64 (k : Int))).far (p := ⟨wr.heap.size + 1, 1, none⟩) (by simp) (.int .i64 (j : Int))).ext hw9)
    have B8 := hid (((B8.out.far (p := ⟨wr.heap.size + 1, 0, none⟩) (by simp; omega) (.int .i64 (k : Int))).far (p := ⟨wr.heap.size + 1, 1, none⟩) (by simp; omega) (.int .i64 (j : Int))).ext hw9)
    clear b11 hw9 f11
    clear kd kdl k1 k1l k8 k8l f8 k10 k10l k11 k11l
    have kd := (hd.ext EE.out).cell
    have kdl := (hd.ext EE.out).lt
    have k1 := (B1.out.ext EE.out).cell
    have k1l := (B1.out.ext EE.out).lt
    have k8 := B8.out.cell
    have k8l := B8.out.lt
    have f8 := B8.out.frozen
    have k10 := B10.out.cell
    have k10l := B10.out.lt
    have k11 := B11.out.cell
    have k11l := B11.out.lt
    refine wp_region_mono 12 [(7, fun v _ _ _ => v = .int .i64 (P.books x k j)), (9, S1 (x.c j 1 - P.books x k j)), (10, fun v _ _ _ => v = .int .i64 (max (P.wLo x k j) (x.c j 1 - P.books x k j)))] (by kernel_rfl) (by kernel_rfl) (by kernel_rfl) ?hS ?_
    case hS =>
     simp only [List.forall_mem_cons]
     exact ⟨fun _ _ _ _ _ _ h => h, fun _ _ _ _ _ e h => S1.ext h e, fun _ _ _ _ _ _ h => h, fun _ h => by simp at h⟩
    simp only [List.take_succ_cons, List.take_zero, List.drop_succ_cons, List.drop_zero]
    refine wpM_plain rfl ?_
    go_big_quiet_step (fail)
    refine wpQuiet_nil ?_
    refine wpM_plain rfl ?_
    go_big_quiet_step (fail)
    refine wpQuiet_nil ?_
    refine wpM_plain rfl ?_
    go_big_quiet_step (fail)
    refine wpQuiet_nil ?_
    refine wpM_plain rfl ?_
    go_big_quiet_step (fail)
    refine wpQuiet_nil ?_
    refine wpM_plain rfl ?_
    go_big_quiet_step (fail)
    refine wpQuiet_nil ?_
    refine wpM_plain rfl ?_
    go_big_quiet_step (fail)
    refine wpQuiet_nil ?_
    refine wpM_plain rfl ?_
    go_big_quiet_step (fail)
    refine wpQuiet_nil ?_
    refine wpM_spec _ rfl rfl (fun w4 hw4 _ => ?_) (fun va la ha ga1 ga2 _ hva => ?_)
    ·go_wp2_with (go_at_call 147; refine (books_any hx (HU.out.ext (EE.out.trans hw4)) k j (Nat.le_of_lt c) hlt).mono ?_; rintro e w5 ⟨rfl, he5⟩)
     exact ⟨_, _, _, rfl, he5, Nat.le_refl _, he5.size, Nat.le_refl _, rfl⟩
    obtain ⟨_, rfl⟩ := hva
    simp only [Act.put, List.setIfInBounds_toArray, List.set_cons_succ, List.set_cons_zero]
    refine wpM_plain rfl ?_
    go_big_quiet_step (fail)
    refine wpQuiet_nil ?_
    refine wpM_spec _ rfl rfl (fun w4 hw4 _ => ?_) (fun va la ha ga1 ga2 _ hva => ?_)
    ·go_wp2
     exact ⟨_, w4.heap.size, w4.heap.size + 1, rfl, (Ext.refl _).alloc _, Nat.le_refl _, Nat.le_succ _, by simp, w4.heap.size, rfl, Blk.new _ _ _⟩
    simp only [Act.put, List.setIfInBounds_toArray, List.set_cons_succ, List.set_cons_zero]
    obtain ⟨_, gs, rfl, -⟩ := hva
    refine wpM_spec _ rfl rfl (fun w4 hw4 hF => ?_) (fun va la ha ga1 ga2 _ hva => ?_)
    ·simp only [List.forall_mem_cons] at hF
     obtain ⟨-, g2, hq2, hb2⟩ := hF.1 (by kernel_rfl)
     obtain rfl : gs = g2 := by simpa using hq2
     go_wp2_with (go_at_call 148; refine (greatest_one hb2).mono ?_; rintro e w5 ⟨rfl, he5⟩)
     exact ⟨_, _, _, rfl, he5, Nat.le_refl _, he5.size, Nat.le_refl _, rfl⟩
    obtain ⟨_, rfl⟩ := hva
    simp only [Act.put, List.setIfInBounds_toArray, List.set_cons_succ, List.set_cons_zero]
    refine wpM_plain rfl ?_
    go_big_quiet_step (fail)
    refine wpQuiet_nil ?_
    refine wpM_nil fun w12 hw12 _ => ?_
    have EE := hid (EE.out.trans hw12)
    have B8 := hid (B8.out.ext hw12)
    have B10 := hid (B10.out.ext hw12)
    have B11 := hid (B11.out.ext hw12)
    clear kd kdl k1 k1l k8 k8l f8 k10 k10l k11 k11l
    have kd := (hd.ext EE.out).cell
    have kdl := (hd.ext EE.out).lt
    have k1 := (B1.out.ext EE.out).cell
    have k1l := (B1.out.ext EE.out).lt
    have k8 := B8.out.cell
    have k8l := B8.out.lt
    have f8 := B8.out.frozen
    have k10 := B10.out.cell
    have k10l := B10.out.lt
    have k11 := B11.out.cell
    have k11l := B11.out.lt
    go_upto_region 16 with fail
    refine wp_later fun w10 hw10 => ?_
    have EE := hid ((EE.out.setCell _ (p := ⟨w6.heap.size, 0, none⟩) (Nat.le_refl _)).trans hw10)
    have b8 := (B8.out.set_ 0 (.int .i64 (max (P.wLo x k j) (x.c j 1 - P.books x k j)))).ext hw10
    simp only [List.setIfInBounds_toArray, List.set_cons_zero] at b8
    rw [← HLO.out] at b8
    have B8 := hid b8
    have B10 := hid ((B10.out.far (p := ⟨w6.heap.size, 0, none⟩) (by simp; omega) _).ext hw10)
    have B11 := hid ((B11.out.far (p := ⟨w6.heap.size, 0, none⟩) (by simp; omega) _).ext hw10)
    clear b8 hw10
    clear kd kdl k1 k1l k8 k8l f8 k10 k10l k11 k11l
    have kd := (hd.ext EE.out).cell
    have kdl := (hd.ext EE.out).lt
    have k1 := (B1.out.ext EE.out).cell
    have k1l := (B1.out.ext EE.out).lt
    have k8 := B8.out.cell
    have k8l := B8.out.lt
    have f8 := B8.out.frozen
    have k10 := B10.out.cell
    have k10l := B10.out.lt
    have k11 := B11.out.cell
    have k11l := B11.out.lt
    have hlk : ∀ n : Later w10, (Instr.lookup 187 (.map (some mb)) (.agg #[.int .i64 (k : Int), .int .i64 (j : Int)]) false).run Tryz.prog n.at_ = .ok (.int .i64 (P.th x k j : Int)) n.at_ := fun n => by
     rw [lookup_run (hmp.ext (EE.out.trans n.ok)), HL.out k j c hlt]
    by_cases hth : P.th x k j = 0
    ·have e3 : ((P.th x k j : Int) == 0) = true := by simp [hth]
     have HTH := hid hth
     clear hth
     refine wp_region_later (by kernel_rfl) (by kernel_rfl) ?_
     repeat (go_big_quiet_step (fail))
     refine wpQuiet_nil ?_
     rintro w11 ⟨⟨_, he11⟩, rfl⟩
     have EE := hid (EE.out.trans he11)
     have B8 := hid (B8.out.ext he11)
     have B10 := hid (B10.out.ext he11)
     have B11 := hid (B11.out.ext he11)
     clear hlk
     clear kd kdl k1 k1l k8 k8l f8 k10 k10l k11 k11l
     have kd := (hd.ext EE.out).cell
     have kdl := (hd.ext EE.out).lt
     have k1 := (B1.out.ext EE.out).cell
     have k1l := (B1.out.ext EE.out).lt
     have k8 := B8.out.cell
     have k8l := B8.out.lt
     have f8 := B8.out.frozen
     have k10 := B10.out.cell
     have k10l := B10.out.lt
     have k11 := B11.out.cell
     have k11l := B11.out.lt
     obtain ⟨_, _, hq, heb, y0, y1, y2⟩ := (V1.out.ext EE.out).at3 hk
     obtain ⟨rfl, rfl⟩ := same_addr hq rfl
     clear hq
     go_upto_region 17 with fail
     refine wp_region_tail 27 (by kernel_rfl) (by kernel_rfl) ?_
     simp only [List.take_succ_cons, List.take_zero, List.drop_succ_cons, List.drop_zero]
     repeat (go_big_quiet_step ((go_at_call 147; exact Calls.later (books_any hx ((HU.out.ext EE.out).ext (Later.ext _)) k j (Nat.le_of_lt c) hlt))))
     refine wpQuiet_nil ?_
     rintro w12 ⟨⟨_, he12⟩, rfl⟩
     have EE := hid (EE.out.trans he12)
     have B8 := hid (B8.out.ext he12)
     have B10 := hid (B10.out.ext he12)
     have B11 := hid (B11.out.ext he12)
     clear kd kdl k1 k1l k8 k8l f8 k10 k10l k11 k11l
     have kd := (hd.ext EE.out).cell
     have kdl := (hd.ext EE.out).lt
     have k1 := (B1.out.ext EE.out).cell
     have k1l := (B1.out.ext EE.out).lt
     have k8 := B8.out.cell
     have k8l := B8.out.lt
     have f8 := B8.out.frozen
     have k10 := B10.out.cell
     have k10l := B10.out.lt
     have k11 := B11.out.cell
     have k11l := B11.out.lt
     have hmin : (if x.c j 2 - P.books x k j + x.allow * (x.c j 0 - x.c k 0) < P.wHi x k j then x.c j 2 - P.books x k j + x.allow * (x.c j 0 - x.c k 0) else P.wHi x k j) = P.wHi x k (j+1) := by
      rw [HHI.out, if_pos HTH.out]; split <;> omega
     have HMN := hid hmin
     clear hmin
     go_wp2_with fail
     go_roundw
     case rel => exact ⟨j + 1, by omega, by go_num, EE.out.setCell _ (p := ⟨w6.heap.size, 1, none⟩) (Nat.le_refl _), by rw [← HMN.out]; exact B8.out.set_ 1 _⟩
     case measure => simp [intOf]; omega
    ·have e3 : ((P.th x k j : Int) == 0) = false := by rw [beq_eq_false_iff_ne]; omega
     have HTH := hid hth
     clear hth
     refine wp_region_later (by kernel_rfl) (by kernel_rfl) ?_
     repeat (go_big_quiet_step (fail))
     refine wpQuiet_nil ?_
     rintro w11 ⟨⟨_, he11⟩, rfl⟩
     have EE := hid (EE.out.trans he11)
     have B8 := hid (B8.out.ext he11)
     go_wp2_with fail
     go_roundw
     case rel => exact ⟨j + 1, by omega, by go_num, EE.out, by rw [HHI.out, if_neg HTH.out]; exact B8.out⟩
     case measure => simp [intOf]; omega
  ·obtain rfl : j = x.cn := by omega
   have k8 := b8.cell
   have k8l := b8.lt
   have b4' := (b4.ext hw6).ext he
   have k4 := b4'.cell
   have k4l := b4'.lt
   have f4 := b4'.frozen
   go_wp2_with fail
   try rw [Exit.noGoto_ret]
   exact bodyPost_ret (v := .tuple #[.agg #[.int .i64 (P.lo x k), .int .i64 (P.hi x k)], .int .i64 0]) (by simp [results, Tryz.results51, go_sem, k4, P.lo, P.hi]) rfl ⟨rfl, ((E0.trans (hw6.trans he)).setCell _ (by simp)).setCell _ (by simp)⟩
end Go.Proofs.YtkhjmedfhobebaaGreat
