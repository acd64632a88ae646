/- Walks of the program: the list of hands looked at, Explains and Left. -/
import Derived.Test.YtkhjmedfhobebaaGreatDoV
import Derived.Test.YtkhjmedfhobebaaGreatDoM
import Derived.Test.YtkhjmedfhobebaaGreatDoK
namespace Go.Proofs.YtkhjmedfhobebaaGreat
open Go.RowKit HandSpec
set_option maxHeartbeats 1600000
set_option maxRecDepth 100000
theorem collect258 {w : World} {b1 n cap : Nat} {A : Option Addr} {g : Nat → Nat → Int} (hn : n ≤ 1000) (hb : Blk w b1 56 #[.slice A n cap]) (hr : Rd w A n 1 g) :
  Calls Tryz.prog 258 #[.func (.func 259) #[] #[.pointer (some ⟨b1, 0, none⟩)]] w fun e w' => ∃ u, e = .returned u ∧ Ext w w' ∧ MyI w' w.heap.size u (ints g n) := by
 go_enter Tryz.func258, Tryz.ntmps258
 go_wp2_with (go_at_call 276; refine (append276 hn hb hr).mono ?_; rintro e w1 ⟨u, rfl, he, hu⟩)
 go_ret
 exact ⟨u, rfl, he, MyI.of_own hu⟩
theorem sorted233 {w : World} {b1 n cap : Nat} {A : Option Addr} {g : Nat → Nat → Int} (hn : n ≤ 12) (hb : Blk w b1 56 #[.slice A n cap]) (hr : Rd w A n 1 g) :
  Calls Tryz.prog 233 #[.func (.func 259) #[] #[.pointer (some ⟨b1, 0, none⟩)]] w fun e w' => ∃ u l', e = .returned u ∧ Ext w w' ∧ l'.Perm (ints g n) ∧ SortedI l' l'.length ∧ MyI w' w.heap.size u l' := by
 have hl := ints_length g n
 go_enter Tryz.func233, Tryz.ntmps233
 go_wp2_with (first
  | (go_at_call 258; refine (collect258 (by omega) hb hr).mono ?_; rintro e w1 ⟨u, rfl, he, hu⟩; have HU := hid hu; clear hu)
  | (go_at_call 181; refine (sort_ints HU.out he (Nat.le_refl _) (by omega)).mono ?_; rintro e w2 ⟨rfl, he2, hs⟩))
 go_ret
 obtain ⟨l', h1, h2, h3⟩ := hs
 exact ⟨u, l', rfl, he2, h1, h2, h3⟩
theorem hand257 {x : WD} {w : World} {b : Nat} {t : TypeId} {v : Value} (hv : IsW w v x) (hb : Blk w b t #[.func (.func 121) #[v] #[]]) (a : Int) :
  Calls Tryz.prog 257 #[.int .i64 a, .pointer (some ⟨b, 0, none⟩)] w fun e w' => e = .returned (.bool (!inB a 0 (wrap64 (x.hands - 1)))) ∧ Ext w w' := by
 have hlt := hb.lt
 have q0 := hb.cell
 have hcf := enters_ Tryz.func121 (by kernel_rfl) rfl
 clear hb
 have HV := hid hv; clear hv
 go_enter Tryz.func257, Tryz.ntmps257
 go_wp2_with (refine (hand_any HV.out _).mono ?_; rintro e w1 ⟨rfl, he⟩)
 go_ret
 exact ⟨rfl, he⟩
theorem every231h {x : WD} {w : World} {v : Value} (hv : IsW w v x) {A : Option Addr} {n cap : Nat} {g : Nat → Nat → Int} (hr : Rd w A n 1 g) (hn : n ≤ 1000) :
  Calls Tryz.prog 231 #[.slice A n cap, .func (.func 121) #[v] #[]] w (fun e w' => e = .returned (.bool (!anyTo (fun k => !inB (g k 0) 0 (wrap64 (x.hands - 1))) n)) ∧ Ext w w') := by
 have hmf : ∀ (fn : Fn) (first cap : Array Value) (w : World), (Instr.makeFunc fn first cap).run Tryz.prog w = .ok (.func fn first cap) w := fun _ _ _ _ => rfl
 have e0 : Ext w (w.alloc (.cells #[.func (.func 121) #[v] #[]] 139)) := (Ext.refl _).alloc _
 have HV := hid hv; clear hv
 have h1 : Asks (w.alloc (.cells #[.func (.func 121) #[v] #[]] 139)) (.func (.func 257) #[] #[.pointer (some ⟨w.heap.size, 0, none⟩)]) n (enc1 g) (fun k => !inB (g k 0) 0 (wrap64 (x.hands - 1))) :=
  ⟨_, _, rfl, enters_ Tryz.func257 (by kernel_rfl) rfl, fun k _ w' e => hand257 (HV.out.ext (e0.trans e)) ((Blk.new _ _ _).ext e) _⟩
 have H1 := hid h1; clear h1
 go_enter Tryz.func231, Tryz.ntmps231
 go_wp2_with (go_at_call 85; refine (containsFunc85 (hr.ext e0) hn H1.out).mono ?_; rintro e w1 ⟨rfl, he1⟩)
 go_ret
 exact ⟨rfl, e0.trans he1⟩
theorem badL_wrap {x : WD} (hx : Ok x) (g : Nat → Nat → Int) (n : Nat) : anyTo (fun k => !inB (g k 0) 0 (wrap64 (x.hands - 1))) n = badL x g n := by
 have h := hx.hands
 rw [show wrap64 (x.hands - 1) = x.hands - 1 by unfold wrap64; omega]
 rfl
/-- What is wrong with a watch, or a list of hands. -/
def lE (x : WD) (g : Nat → Nat → Int) (n : Nat) : Int := if P.chk x ≠ 0 then P.chk x else listE x g n
theorem listed_err {x : WD} {w : World} {v : Value} (hv : IsW w v x) (h1 : x.cn ≤ 1000) (h2 : x.bn ≤ 1000) (h3 : x.sn ≤ 1000) {A : Option Addr} {n cap : Nat} {g : Nat → Nat → Int} (hr : Rd w A n 1 g) (hn : n ≤ 12) (he : lE x g n ≠ 0) :
  Calls Tryz.prog 184 #[v, .slice A n cap] w fun e w' => e = .returned (.tuple #[.pointer none, .int .i64 (lE x g n)]) ∧ Ext w w' := by
 have hmf : ∀ (fn : Fn) (first cap : Array Value) (w : World), (Instr.makeFunc fn first cap).run Tryz.prog w = .ok (.func fn first cap) w := fun _ _ _ _ => rfl
 have HV := hid hv
 have HR := hid hr
 obtain ⟨A1, c1, A2, c2, A3, c3, rfl, r1, r2, r3⟩ := hv
 clear r1 r2 r3 hr
 by_cases hc : P.chk x = 0
 ·have hx := Ok.of_chk hc
  have hl : lE x g n = listE x g n := by unfold lE; rw [if_neg (by simpa using hc)]
  rw [hl] at he ⊢
  have HC := hid hc
  clear hc hl
  cases hb : badL x g n
  ·have hd : dupL g n = true := by
    cases hd : dupL g n
    ·unfold listE at he; rw [hb, hd] at he; exact absurd rfl he
    ·rfl
   have hz : listE x g n = 5 := by unfold listE; rw [hb, hd]; rfl
   rw [hz]
   have HB := hid hb
   have HD := hid hd
   clear hb hd hz he
   go_enter Tryz.func184, Tryz.ntmps184
   go_wp2_with (first
    | (go_at_call 136; refine (opened_ok (HV.out.ext (Ext.alloc (Ext.refl _) _)) h1 h2 h3 HC.out).mono ?_; rintro e w1 ⟨u, rfl, he1, -⟩; obtain ⟨he1, hbx⟩ := he1.newB; have k1 := hbx.cell; have k1l := hbx.lt)
    | (go_at_call 231; refine (every231h (HV.out.ext he1) (HR.out.ext he1) (by omega)).mono ?_; rintro e w2 ⟨rfl, he2⟩; rw [badL_wrap hx, HB.out]; have E2 := he1.trans he2)
    | (go_at_call 234; refine (values234 _).mono ?_; rintro e w3 ⟨rfl, he3, hb3⟩; have E3 := E2.trans he3)
    | (go_at_call 233; refine (sorted233 hn hb3 (HR.out.ext E3)).mono ?_; rintro e w4 ⟨u4, l4, rfl, he4, hp4, hs4, hm4⟩; have HP := hid hp4; have HS := hid hs4; have HM := hid hm4; clear hp4 hs4 hm4)
    | (go_at_call 232; refine (compact_ints HM.out he4 (Nat.le_refl _) (by rw [HP.out.length_eq, ints_length]; omega)).mono ?_; rintro e w5 ⟨A5, m5, c5, rfl, he5, hd5, -⟩; rw [sm_dup HP.out HS.out, HD.out, HP.out.length_eq, ints_length] at hd5; have hlt5 : (m5 : Int) < (n : Int) := (by have := of_decide_eq_true hd5; omega); clear hd5))
   go_ret2
   exact ⟨rfl, E3.trans he5⟩
  ·have hz : listE x g n = 1 := by unfold listE; rw [hb]; rfl
   rw [hz]
   have HB := hid hb
   clear hb hz he
   go_enter Tryz.func184, Tryz.ntmps184
   go_wp2_with (first
    | (go_at_call 136; refine (opened_ok (HV.out.ext (Ext.alloc (Ext.refl _) _)) h1 h2 h3 HC.out).mono ?_; rintro e w1 ⟨u, rfl, he1, -⟩; obtain ⟨he1, hbx⟩ := he1.newB; have k1 := hbx.cell; have k1l := hbx.lt)
    | (go_at_call 231; refine (every231h (HV.out.ext he1) (HR.out.ext he1) (by omega)).mono ?_; rintro e w2 ⟨rfl, he2⟩; rw [badL_wrap hx, HB.out]; have E2 := he1.trans he2))
   go_ret2
   exact ⟨rfl, E2⟩
 ·have hl : lE x g n = P.chk x := by unfold lE; rw [if_pos hc]
  rw [hl]
  have hb : (P.chk x == 0) = false := by simpa using hc
  have hb2 : (P.chk x != 0) = true := by simpa using hc
  have HC := hid hc
  clear hc hl he
  go_enter Tryz.func184, Tryz.ntmps184
  go_wp2_with (go_at_call 136; refine (opened_bad (HV.out.ext (Ext.alloc (Ext.refl _) _)) h1 h2 h3 HC.out).mono ?_; rintro e w1 ⟨rfl, he1⟩)
  go_ret2
  exact ⟨rfl, ((Ext.refl _).alloc _).trans he1⟩
theorem lE_zero {x : WD} {g : Nat → Nat → Int} {n : Nat} (h : lE x g n = 0) : P.chk x = 0 ∧ badL x g n = false ∧ dupL g n = false := by
 unfold lE listE at h
 by_cases hc : P.chk x = 0
 ·rw [if_neg (by simpa using hc)] at h
  refine ⟨hc, ?_⟩
  cases hb : badL x g n
  ·cases hd : dupL g n
   ·exact ⟨rfl, rfl⟩
   ·rw [hb, hd] at h; simp at h
  ·rw [hb] at h; simp at h
 ·rw [if_pos hc] at h; exact absurd h hc
theorem listed_ok {x : WD} {w : World} {v : Value} (hv : IsW w v x) (h1 : x.cn ≤ 1000) (h2 : x.bn ≤ 1000) (h3 : x.sn ≤ 1000) {A : Option Addr} {n cap : Nat} {g : Nat → Nat → Int} (hr : Rd w A n 1 g) (hn : n ≤ 12) (he : lE x g n = 0) :
  Calls Tryz.prog 184 #[v, .slice A n cap] w fun e w' => ∃ u, e = .returned (.tuple #[u, .int .i64 0]) ∧ Ext w w' ∧ IsD w' u x := by
 have hmf : ∀ (fn : Fn) (first cap : Array Value) (w : World), (Instr.makeFunc fn first cap).run Tryz.prog w = .ok (.func fn first cap) w := fun _ _ _ _ => rfl
 have HV := hid hv
 have HR := hid hr
 obtain ⟨A1, c1, A2, c2, A3, c3, rfl, r1, r2, r3⟩ := hv
 clear r1 r2 r3 hr
 obtain ⟨hc, hb, hd⟩ := lE_zero he
 have hx := Ok.of_chk hc
 have HC := hid hc
 have HB := hid hb
 have HD := hid hd
 clear hb hd hc he
 go_enter Tryz.func184, Tryz.ntmps184
 go_wp2_with (first
  | (go_at_call 136; refine (opened_ok (HV.out.ext (Ext.alloc (Ext.refl _) _)) h1 h2 h3 HC.out).mono ?_; rintro e w1 ⟨u, rfl, he1, hu⟩; obtain ⟨he1, hbx⟩ := he1.newB; have k1 := hbx.cell; have k1l := hbx.lt; have HU := hid hu; clear hu)
  | (go_at_call 231; refine (every231h (HV.out.ext he1) (HR.out.ext he1) (by omega)).mono ?_; rintro e w2 ⟨rfl, he2⟩; rw [badL_wrap hx, HB.out]; have E2 := he1.trans he2)
  | (go_at_call 234; refine (values234 _).mono ?_; rintro e w3 ⟨rfl, he3, hb3⟩; have E3 := E2.trans he3)
  | (go_at_call 233; refine (sorted233 hn hb3 (HR.out.ext E3)).mono ?_; rintro e w4 ⟨u4, l4, rfl, he4, hp4, hs4, hm4⟩; have HP := hid hp4; have HS := hid hs4; have HM := hid hm4; clear hp4 hs4 hm4)
  | (go_at_call 232; refine (compact_ints HM.out he4 (Nat.le_refl _) (by rw [HP.out.length_eq, ints_length]; omega)).mono ?_; rintro e w5 ⟨A5, m5, c5, rfl, he5, hd5, -⟩; rw [sm_dup HP.out HS.out, HD.out, HP.out.length_eq, ints_length] at hd5; have hlt5 : ¬ (m5 : Int) < (n : Int) := (by have := of_decide_eq_false hd5; omega); clear hd5))
 go_ret2
 exact ⟨u, rfl, E3.trans he5, HU.out.ext ((he2.trans he3).trans he5)⟩
end Go.Proofs.YtkhjmedfhobebaaGreat
namespace HandSpec
/-- The numbers of a list of hands. -/
def natL (g : Nat → Nat → Int) (n : Nat) : List Nat := (List.range n).map fun k => (g k 0).toNat
theorem natL_length (g : Nat → Nat → Int) (n : Nat) : (natL g n).length = n := by simp [natL]
theorem badL_false {x : WD} {g : Nat → Nat → Int} {n : Nat} (h : badL x g n = false) : ∀ k, k < n → 0 ≤ g k 0 ∧ g k 0 < x.hands := by
 intro k hk
 have h1 := anyTo_false.1 h k hk
 simp [inB] at h1
 omega
theorem natL_lt {x : WD} (hx : Ok x) {g : Nat → Nat → Int} {n : Nat} (h : badL x g n = false) : ∀ i ∈ natL g n, i < 6 := by
 intro i hi
 simp only [natL, List.mem_map, List.mem_range] at hi
 obtain ⟨k, hk, rfl⟩ := hi
 have := badL_false h k hk
 have := hx.hands
 omega
end HandSpec
namespace Go.Proofs.YtkhjmedfhobebaaGreat
open Go.RowKit HandSpec
set_option maxHeartbeats 1600000
set_option maxRecDepth 100000
theorem natL_slR {x : WD} {g : Nat → Nat → Int} {n cap : Nat} {A : Option Addr} {w : World} (h : badL x g n = false) (hr : Rd w A n 1 g) : SlR w 1 (.slice A n cap) (rows1 (natL g n)) := by
 refine ⟨A, cap, by rw [rows1_length, natL_length], ?_⟩
 rw [rows1_length, natL_length]
 refine hr.congr fun k hk j hj => ?_
 obtain rfl : j = 0 := by omega
 have h1 := badL_false h k hk
 have h2 : ((g k 0).toNat : Int) = g k 0 := by omega
 unfold rowsAt rows1 natL
 simp [List.getD_eq_getElem?_getD, hk, h2]
theorem explains_err {x : WD} {w : World} {v : Value} (hv : IsW w v x) (h1 : x.cn ≤ 1000) (h2 : x.bn ≤ 1000) (h3 : x.sn ≤ 1000) {A : Option Addr} {n cap : Nat} {g : Nat → Nat → Int} (hr : Rd w A n 1 g) (hn : n ≤ 12) (he : lE x g n ≠ 0) :
  Calls Tryz.prog 78 #[v, .slice A n cap] w fun e w' => e = .returned (.tuple #[.bool false, .int .i64 (lE x g n)]) ∧ Ext w w' := by
 have HV := hid hv
 obtain ⟨A1, c1, A2, c2, A3, c3, rfl, r1, r2, r3⟩ := hv
 clear r1 r2 r3
 have HR := hid hr
 have hne2 : (lE x g n != 0) = true := by simpa using he
 have hne : (lE x g n == 0) = false := by simpa using he
 have HE := hid he
 clear he hr
 go_enter Tryz.func78, Tryz.ntmps78
 go_wp2_with (go_at_call 184; refine (listed_err (HV.out.ext ((Ext.refl _).alloc _)) h1 h2 h3 (HR.out.ext ((Ext.refl _).alloc _)) hn HE.out).mono ?_; rintro e w1 ⟨rfl, he1⟩)
 go_ret2
 exact ⟨rfl, ((Ext.refl _).alloc _).trans he1⟩
theorem leftX_err {x : WD} {w : World} {v : Value} (hv : IsW w v x) (h1 : x.cn ≤ 1000) (h2 : x.bn ≤ 1000) (h3 : x.sn ≤ 1000) {A : Option Addr} {n cap : Nat} {g : Nat → Nat → Int} (hr : Rd w A n 1 g) (hn : n ≤ 12) (he : lE x g n ≠ 0) :
  Calls Tryz.prog 79 #[v, .slice A n cap] w fun e w' => e = .returned (.tuple #[.slice none 0 0, .int .i64 (lE x g n)]) ∧ Ext w w' := by
 have HV := hid hv
 obtain ⟨A1, c1, A2, c2, A3, c3, rfl, r1, r2, r3⟩ := hv
 clear r1 r2 r3
 have HR := hid hr
 have hne2 : (lE x g n != 0) = true := by simpa using he
 have hne : (lE x g n == 0) = false := by simpa using he
 have HE := hid he
 clear he hr
 go_enter Tryz.func79, Tryz.ntmps79
 go_wp2_with (go_at_call 184; refine (listed_err (HV.out.ext ((Ext.refl _).alloc _)) h1 h2 h3 (HR.out.ext ((Ext.refl _).alloc _)) hn HE.out).mono ?_; rintro e w1 ⟨rfl, he1⟩)
 go_ret2
 exact ⟨rfl, ((Ext.refl _).alloc _).trans he1⟩
theorem leftX_ok {x : WD} {w : World} {v : Value} (hv : IsW w v x) (h1 : x.cn ≤ 1000) (h2 : x.bn ≤ 1000) (h3 : x.sn ≤ 1000) {A : Option Addr} {n cap : Nat} {g : Nat → Nat → Int} (hr : Rd w A n 1 g) (hn : n ≤ 12) (he : lE x g n = 0) :
  Calls Tryz.prog 79 #[v, .slice A n cap] w fun e w' => ∃ u, e = .returned (.tuple #[u, .int .i64 0]) ∧ Ext w w' ∧ SlR w' 2 u (rows2 (P.left x (P.set (natL g n)))) := by
 have HV := hid hv
 obtain ⟨A1, c1, A2, c2, A3, c3, rfl, r1, r2, r3⟩ := hv
 clear r1 r2 r3
 have HR := hid hr
 obtain ⟨hc, hb, -⟩ := lE_zero he
 have hx := Ok.of_chk hc
 have HL := hid (natL_lt hx hb)
 have hs : P.set (natL g n) < 64 := set_lt HL.out
 have HS : Hid (SlR w 1 (.slice A n cap) (rows1 (natL g n))) := hid (natL_slR hb hr)
 have hl : (natL g n).length ≤ 1000 := by rw [natL_length]; omega
 have HE := hid he
 clear he hr hc hb
 go_enter Tryz.func79, Tryz.ntmps79
 go_wp2_with (first
  | (go_at_call 184; refine (listed_ok (HV.out.ext ((Ext.refl _).alloc _)) h1 h2 h3 (HR.out.ext ((Ext.refl _).alloc _)) hn HE.out).mono ?_; rintro e w1 ⟨u, rfl, he1, hu⟩; have HU := hid hu; clear hu; have E1 := ((Ext.refl w).alloc (.cells #[.int .i64 x.hours, .int .i64 x.allow, .int .i64 x.hands, .slice A1 x.cn c1, .slice A2 x.bn c2, .slice A3 x.sn c3] 26)).trans he1)
  | (go_at_call 132; refine (set_any HL.out hl (HS.out.ext E1)).mono ?_; rintro e w2 ⟨rfl, he2⟩)
  | (go_at_call 131; refine (leftP_any hx (HU.out.ext he2) hs).mono ?_; rintro e w3 ⟨ua, rfl, he3, hu3⟩))
 go_ret2
 exact ⟨_, rfl, (E1.trans he2).trans he3, hu3.slR⟩
theorem explains_clash {x : WD} {w : World} {v : Value} (hv : IsW w v x) (h1 : x.cn ≤ 1000) (h2 : x.bn ≤ 1000) (h3 : x.sn ≤ 1000) {A : Option Addr} {n cap : Nat} {g : Nat → Nat → Int} (hr : Rd w A n 1 g) (hn : n ≤ 12) (he : lE x g n = 0) (hs : (R.clashes x).isSome = true) :
  Calls Tryz.prog 78 #[v, .slice A n cap] w fun e w' => e = .returned (.tuple #[.bool false, .int .i64 7]) ∧ Ext w w' := by
 have HV := hid hv
 obtain ⟨A1, c1, A2, c2, A3, c3, rfl, r1, r2, r3⟩ := hv
 clear r1 r2 r3
 have HR := hid hr
 have hx := Ok.of_chk (lE_zero he).1
 have HS := hid hs
 have HE := hid he
 clear he hr hs
 go_enter Tryz.func78, Tryz.ntmps78
 go_wp2_with (first
  | (go_at_call 184; refine (listed_ok (HV.out.ext ((Ext.refl _).alloc _)) h1 h2 h3 (HR.out.ext ((Ext.refl _).alloc _)) hn HE.out).mono ?_; rintro e w1 ⟨u, rfl, he1, hu⟩; have HU := hid hu; clear hu; have E1 := ((Ext.refl w).alloc (.cells #[.int .i64 x.hours, .int .i64 x.allow, .int .i64 x.hands, .slice A1 x.cn c1, .slice A2 x.bn c2, .slice A3 x.sn c3] 26)).trans he1)
  | (go_at_call 145; refine (clashesP_any hx HU.out).mono ?_; rintro e w2 ⟨rfl, he2⟩; rw [HS.out]))
 go_ret2
 exact ⟨rfl, (E1.trans he2).alloc _⟩
theorem explains_ok {x : WD} {w : World} {v : Value} (hv : IsW w v x) (h1 : x.cn ≤ 1000) (h2 : x.bn ≤ 1000) (h3 : x.sn ≤ 1000) {A : Option Addr} {n cap : Nat} {g : Nat → Nat → Int} (hr : Rd w A n 1 g) (hn : n ≤ 12) (he : lE x g n = 0) (hs : (R.clashes x).isSome = false) :
  Calls Tryz.prog 78 #[v, .slice A n cap] w fun e w' => e = .returned (.tuple #[.bool (P.left x (P.set (natL g n))).isEmpty, .int .i64 0]) ∧ Ext w w' := by
 have HV := hid hv
 obtain ⟨A1, c1, A2, c2, A3, c3, rfl, r1, r2, r3⟩ := hv
 clear r1 r2 r3
 have HR := hid hr
 obtain ⟨hc, hb, -⟩ := lE_zero he
 have hx := Ok.of_chk hc
 have HL := hid (natL_lt hx hb)
 have hset : P.set (natL g n) < 64 := set_lt HL.out
 have HN : Hid (SlR w 1 (.slice A n cap) (rows1 (natL g n))) := hid (natL_slR hb hr)
 have hl : (natL g n).length ≤ 1000 := by rw [natL_length]; omega
 have HF : Hid ((P.left x (P.set (natL g n))).isEmpty = decide ((P.left x (P.set (natL g n))).length = 0)) := hid (by cases P.left x (P.set (natL g n)) <;> simp)
 have HS := hid hs
 have HE := hid he
 clear he hr hs hc hb
 go_enter Tryz.func78, Tryz.ntmps78
 go_wp2_with (first
  | (go_at_call 184; refine (listed_ok (HV.out.ext ((Ext.refl _).alloc _)) h1 h2 h3 (HR.out.ext ((Ext.refl _).alloc _)) hn HE.out).mono ?_; rintro e w1 ⟨u, rfl, he1, hu⟩; have HU := hid hu; clear hu; have E1 := ((Ext.refl w).alloc (.cells #[.int .i64 x.hours, .int .i64 x.allow, .int .i64 x.hands, .slice A1 x.cn c1, .slice A2 x.bn c2, .slice A3 x.sn c3] 26)).trans he1)
  | (go_at_call 145; refine (clashesP_any hx HU.out).mono ?_; rintro e w2 ⟨rfl, he2⟩; rw [HS.out])
  | (go_at_call 132; refine (set_any HL.out hl (HN.out.ext ((E1.trans he2).alloc _))).mono ?_; rintro e w3 ⟨rfl, he3⟩)
  | (go_at_call 131; refine (leftP_any hx (HU.out.ext ((he2.alloc _).trans he3)) hset).mono ?_; rintro e w4 ⟨ua, rfl, he4, hu4⟩; obtain ⟨B, cb, rfl, _⟩ := hu4.slR; rw [rows2_length]))
 go_ret2
 exact ⟨by rw [HF.out]; by_cases h : (P.left x (P.set (natL g n))).length = 0 <;> simp [h], ((E1.trans he2).alloc _).trans (he3.trans he4)⟩
end Go.Proofs.YtkhjmedfhobebaaGreat
