/- Walk of the law of proofs: for all numbers, and any hand, it returns true. No condition. -/
import Derived.Test.YtkhjmedfhobebaaGreatProvP
import Derived.Test.YtkhjmedfhobebaaGreatCuts
import Derived.Test.YtkhjmedfhobebaaGreatLawB
import Derived.Test.YtkhjmedfhobebaaGreatAllowP
import Derived.Test.YtkhjmedfhobebaaGreatDoX
import Derived.Test.YtkhjmedfhobebaaGreatDoM
namespace Go.Proofs.YtkhjmedfhobebaaGreat
open Go.RowKit HandSpec
set_option maxHeartbeats 3200000
set_option maxRecDepth 100000
theorem _root_.HandSpec.L.proof_len {x : WD} (hx : Ok x) {m : Nat} : (P.proof x m).length ≤ 8 := by
  have h := hx.cn
  unfold P.proof
  split
  · simp
  · exact Nat.le_trans (P.chain_length _ _ _) (by omega)
theorem right83 {x : WD} {w : World} {v : Value} (hv : IsW w v x) {a b : Nat} (hab : a < b) (hb : b < x.cn) :
    Calls Tryz.prog 83 #[v, .agg #[.int .i64 (a : Int), .int .i64 (b : Int)]] w fun e w' => e = .returned (.bool true) ∧ Ext w w' := by
  obtain ⟨A1, c1, A2, c2, A3, c3, rfl, r1, r2, r3⟩ := hv
  clear r1 r2 r3
  have hi1 : (a : Int) < (b : Int) := by omega
  have hi2 : (b : Int) < (x.cn : Int) := by omega
  have hi3 : (0 : Int) ≤ (a : Int) := by omega
  go_enter Tryz.func83, Tryz.ntmps83
  go_upto_region 1 with fail
  refine wp_later fun w1 hw1 => ?_
  obtain ⟨E1, b2, b3⟩ := hw1.newB2
  have k2 := b2.cell
  have k3 := b3.cell
  have l2 := b2.lt
  have l3 := b3.lt
  clear hw1
  go_wp2_with fail
  go_ret
  exact ⟨rfl, E1⟩
theorem run86 (n : Int) (w : World) : Calls Tryz.prog 86 #[.int .i64 n] w fun e w' => e = .returned (.bool (decide (1 < n))) ∧ Ext w w' := by
  go_enter Tryz.func86, Tryz.ntmps86
  go_wp2_with fail
  go_ret
  exact ⟨rfl, Ext.refl _⟩
theorem asks86 (w : World) (n : Nat) (f : Nat → Int) : Asks w (.func (.func 86) #[] #[]) n (enc1 (fun k _ => f k)) (fun k => decide (1 < f k)) :=
  ⟨_, _, rfl, enters_ Tryz.func86 (by kernel_rfl) rfl, fun k _ W _ => run86 (f k) W⟩
theorem bytes_later {w w' : World} {A : Option Addr} {n : Nat} (h : ByteS w A n) (e : Ext w w') : ByteS w' A n := fun hn => by
  obtain ⟨b, o, h1, h2, h3⟩ := h hn
  exact ⟨b, o, h1, Nat.lt_of_lt_of_le h2 e.size, fun k hk => by
    obtain ⟨c, hc⟩ := h3 k hk
    exact ⟨c, e.some_ hc⟩⟩
theorem gapBd {x : WD} (hx : Ok x) {a b : Nat} (ha : a < x.cn) (hb : b < x.cn) : -5000 ≤ R.gap x a b ∧ R.gap x a b ≤ 5000 := by
  have g1 := hx.hour a ha
  have g2 := hx.hour b hb
  have g3 := hx.hours
  have g4 := hx.lo a ha
  have g5 := hx.hi b hb
  have g6 := hx.allow
  have g7 := R.booked_bound hx a b
  have h1 := Int.mul_le_mul_of_nonneg_left (show x.c b 0 - x.c a 0 ≤ 60 by omega) g6.1
  have h2 := Int.mul_le_mul_of_nonneg_left (show -60 ≤ x.c b 0 - x.c a 0 by omega) g6.1
  show -5000 ≤ x.c a 1 + R.booked x a b - x.allow * (x.c b 0 - x.c a 0) - x.c b 2 ∧ x.c a 1 + R.booked x a b - x.allow * (x.c b 0 - x.c a 0) - x.c b 2 ≤ 5000
  omega
theorem sumG_bd {x : WD} (hx : Ok x) {T : List (Nat × Nat)} (hT : L.Strs x T) : ∀ n, n ≤ T.length → -5000 * (n : Int) ≤ L.sumG x T n ∧ L.sumG x T n ≤ 5000 * (n : Int)
  | 0, _ => by simp [L.sumG, sumTo]
  | n+1, h => by
    have ih := sumG_bd hx hT n (by omega)
    obtain ⟨h1, h2⟩ := hT n (by omega)
    have h3 := gapBd hx (show (nth T n).1 < x.cn by omega) h2
    show _ ≤ L.sumG x T n + R.gap x (nth T n).1 (nth T n).2 ∧ L.sumG x T n + R.gap x (nth T n).1 (nth T n).2 ≤ _
    omega
theorem usedTo_bd {x : WD} {h i : Nat} {T : List (Nat × Nat)} : ∀ n, 0 ≤ L.usedTo x h T n i ∧ L.usedTo x h T n i ≤ (n : Int)
  | 0 => by simp [L.usedTo, sumTo]
  | n+1 => by
    have ih := usedTo_bd (x := x) (h := h) (i := i) (T := T) n
    show 0 ≤ L.usedTo x h T n i + (if L.useF x h T i n then 1 else 0) ∧ L.usedTo x h T n i + (if L.useF x h T i n then 1 else 0) ≤ _
    split <;> omega
theorem holds_succ {x : WD} {h : Nat} {T : List (Nat × Nat)} {q : Nat} : L.holdsTo x h T (q+1) = (L.holdsTo x h T q && L.goodB x h (nth T q)) := by
  unfold L.holdsTo
  rw [show anyTo (fun k => !L.goodB x h (nth T k)) (q+1) = (anyTo (fun k => !L.goodB x h (nth T k)) q || !L.goodB x h (nth T q)) from rfl, Bool.not_or, Bool.not_not]
/-- How often an interval is in the first q stretches, and in the next one below k. -/
def usedMid (x : WD) (h : Nat) (T : List (Nat × Nat)) (q k i : Nat) : Int := L.usedTo x h T q i + (if R.is x i (i+1) h && (decide ((nth T q).1 ≤ i) && decide (i < k)) then 1 else 0)
theorem usedMid_bd {x : WD} {h : Nat} {T : List (Nat × Nat)} {q k i : Nat} : 0 ≤ usedMid x h T q k i ∧ usedMid x h T q k i ≤ (q : Int) + 1 := by
  have := usedTo_bd (x := x) (h := h) (i := i) (T := T) q
  unfold usedMid
  split <;> omega
theorem usedMid_lo {x : WD} {h : Nat} {T : List (Nat × Nat)} {q i : Nat} : usedMid x h T q (nth T q).1 i = L.usedTo x h T q i := by
  unfold usedMid
  have : (decide ((nth T q).1 ≤ i) && decide (i < (nth T q).1)) = false := by
    rw [Bool.eq_false_iff]; intro h; simp at h; omega
  rw [this, Bool.and_false]
  simp
theorem usedMid_hi {x : WD} {h : Nat} {T : List (Nat × Nat)} {q i : Nat} : usedMid x h T q (nth T q).2 i = L.usedTo x h T (q+1) i := rfl
theorem usedMid_no {x : WD} {h : Nat} {T : List (Nat × Nat)} {q k i : Nat} (hb : R.is x k (k+1) h = false) : usedMid x h T q (k+1) i = usedMid x h T q k i := by
  unfold usedMid
  by_cases e : i = k
  · subst e; rw [hb]; simp
  · rw [show decide (i < k + 1) = decide (i < k) by rw [Bool.eq_iff_iff]; simp; omega]
theorem usedMid_yes {x : WD} {h : Nat} {T : List (Nat × Nat)} {q k i : Nat} (hb : R.is x k (k+1) h = true) (hk : (nth T q).1 ≤ k) : usedMid x h T q (k+1) i = upd (usedMid x h T q k) k (usedMid x h T q k k + 1) i := by
  by_cases e : i = k
  · subst e
    rw [upd_same]
    unfold usedMid
    rw [hb, decide_eq_true hk, decide_eq_true (show i < i + 1 by omega), decide_eq_false (show ¬ i < i by omega)]
    simp
  · rw [upd_other _ _ e]
    unfold usedMid
    rw [show decide (i < k + 1) = decide (i < k) by rw [Bool.eq_iff_iff]; simp; omega]
/-- A list that is tried, while it is made. -/
structure TI (x : WD) (d : SackD) (w5 : World) (Bo ns : Nat) (As : Option Addr) (cs i : Nat) (l : List (Nat × Nat)) (kk : Nat) (u : Value) (T : List (Nat × Nat)) (W : World) : Prop where
  o : OwnR W Bo 51 2 u (rows2 T)
  s : L.Strs x T
  n : T.length ≤ l.length + kk
  z : i = 0 → T = l
  sx : Sx d (10 * i + 1 + kk) w5 W
  st : OwnR W w5.heap.size 51 2 (.slice As ns cs) (rows2 (stretches x.cn))
  lw : Bo ≤ W.heap.size
theorem strs_add {x : WD} {T : List (Nat × Nat)} (h : L.Strs x T) {a b : Nat} (hab : a < b) (hb : b < x.cn) : L.Strs x (T ++ [(a, b)]) := fun k hk => by
  simp only [List.length_append, List.length_singleton] at hk
  rcases Nat.lt_or_eq_of_le (Nat.le_of_lt_succ hk) with h1 | h1
  · rw [nth_append h1]; exact h k h1
  · subst h1; rw [nth_append_one]; exact ⟨hab, hb⟩
theorem pick_str {x : WD} {W : World} {B ns cs v : Nat} {As : Option Addr} (o : OwnR W B 51 2 (.slice As ns cs) (rows2 (stretches x.cn))) (hns : ns = (stretches x.cn).length) (hv : v < ns) :
    ∃ a b : Nat, a < b ∧ b < x.cn ∧ ∃ g off, As = some ⟨g, off, none⟩ ∧ g < W.heap.size ∧ W.cell? ⟨g, off + v * 2, none⟩ = some (.int .i64 (a : Int)) ∧ W.cell? ⟨g, off + v * 2 + 1, none⟩ = some (.int .i64 (b : Int)) := by
  subst hns
  have hm : nth (stretches x.cn) v ∈ stretches x.cn := by rw [nth_get _ hv]; exact List.getElem_mem hv
  obtain ⟨h1, h2⟩ := mem_stretches.1 hm
  obtain ⟨A, cap, e, hr⟩ := o.slR
  simp only [Value.slice.injEq] at e
  obtain ⟨rfl, -, -⟩ := e
  rw [rows2_length] at hr
  obtain ⟨g, off, hA, hg, q0, q1⟩ := hr.at2 hv
  rw [rows2_at0 _ hv] at q0
  rw [rows2_at1 _ hv] at q1
  exact ⟨_, _, h1, h2, g, off, hA, hg, q0, q1⟩
/-- Delete of the first one of a list of one's own. -/
theorem del82 {w : World} {B ct : Nat} {At : Option Addr} {T : List (Nat × Nat)} (o : OwnR w B 51 2 (.slice At T.length ct) (rows2 T)) (hB : B ≤ w.heap.size) (h0 : 0 < T.length) (hn : T.length ≤ 1000) :
    Calls Tryz.prog 82 #[.slice At T.length ct, .int .i64 0, .int .i64 1] w fun e w' => ∃ c2, e = .returned (.slice At (T.length - 1) c2) ∧ Ext (cutW w B) w' ∧ Rd w' At (T.drop 1).length 2 (rowsAt (rows2 (T.drop 1))) := by
  rcases OwnR.arr o with ⟨-, h2⟩ | ⟨g, cap', h1, h2, h3, h4⟩
  · exfalso
    have := congrArg List.length h2
    rw [rows2_length, List.length_nil] at this
    omega
  · simp only [Value.slice.injEq] at h1
    obtain ⟨rfl, -, rfl⟩ := h1
    rw [rows2_length] at h3 h4
    refine (delete82 (w0 := cutW w B) (i := 0) (ii := 0) (jj := 1) (cutW_ext hB) (by rw [cutW_size hB]; exact h2) hn h3 h0 rfl rfl h4).mono ?_
    rintro e w' ⟨rfl, h5, -, h6⟩
    refine ⟨_, rfl, h5, ?_⟩
    rw [List.length_drop]
    refine (h6.rd (o := 0) (n := T.length - 1) (c := 2) (by omega)).congr fun k hk j hj => ?_
    rw [if_neg (by omega), Nat.zero_add, show (k * 2 + j + 2) / 2 = k + 1 by omega, show (k * 2 + j + 2) % 2 = j by omega]
    unfold rowsAt rows2
    simp only [List.map_drop, List.getD_eq_getElem?_getD, List.getElem?_drop, Nat.add_comm k 1]
/-- A list that is tried. -/
structure TD (x : WD) (d : SackD) (w5 : World) (ns : Nat) (As : Option Addr) (cs i : Nat) (l : List (Nat × Nat)) (A2 : Option Addr) (T : List (Nat × Nat)) (W : World) : Prop where
  r : Rd W A2 T.length 2 (rowsAt (rows2 T))
  s : L.Strs x T
  n : T.length ≤ 12
  z : i = 0 → T = l
  sx : Sx d (10 * i + 5) w5 W
  st : OwnR W w5.heap.size 51 2 (.slice As ns cs) (rows2 (stretches x.cn))
theorem strs_drop {x : WD} {T : List (Nat × Nat)} (h : L.Strs x T) : L.Strs x (T.drop 1) := fun k hk => by
  rw [List.length_drop] at hk
  have := h (k + 1) (by omega)
  unfold nth at this ⊢
  simpa [List.getD_eq_getElem?_getD, List.getElem?_drop, Nat.add_comm 1 k] using this
theorem law11 {A : Option Addr} {n cap : Nat} {A' : Option Addr} {n' cap' : Nat} {w : World} (hb : ByteS w A n) (hb' : ByteS w A' n') {wh : Nat} (hwh : wh < 256) :
    Calls Tryz.prog 11 #[.slice A n cap, .slice A' n' cap', .int .u8 (wh : Int)] w fun e w' => e = .returned (.bool true) ∧ Ext w w' := by
  have HB := hid hb
  have HB' := hid hb'
  clear hb hb'
  go_enter Tryz.func11, Tryz.ntmps11
  go_upto_region 2 with (first
    | (go_at_call 67; refine (fill67 _).mono ?_; rintro e wa ⟨rfl, hea, hsa⟩; have ST := hid (start_of HB.out hea hsa); have EA := hid hea; clear hsa hea)
    | (go_at_call 72; refine (made_any ST.out EA.out (mc := 8) (mh := 4) (by omega) (by omega)).mono ?_; rintro e wb ⟨x, s, t, A3, c3, A4, c4, A5, c5, A6, c6, lc, nh, rfl, hiw, hx, hT, -, -, -, -, -, heb⟩))
  refine wp_later fun w1 hw1 => ?_
  obtain ⟨E1, b7⟩ := hw1.newB
  have HW := hid (L.truth_fw hx hT)
  have IW := hid (hiw.ext E1)
  have EW := hid (heb.trans E1)
  have h1 : x.cn ≤ 1000 := by have := hx.cn; omega
  have h2 : x.bn ≤ 1000 := by have := hx.bn; omega
  have h3 : x.sn ≤ 1000 := by have := hx.sn; omega
  have HX := hid hx
  have hcn1 := hx.cn
  have hhd := hx.hands
  obtain ⟨g7, hg7⟩ : ∃ g, g = wb.heap.size := ⟨_, rfl⟩
  rw [← hg7] at b7 ⊢
  have B7 := hid b7
  clear hiw hx hT heb hw1 E1 hg7 ST EA b7
  have k7 := B7.out.cell
  have k7l := B7.out.lt
  obtain ⟨hmk, hmk2⟩ := tmodN wh (show 0 < x.hands by omega)
  obtain ⟨h, hh⟩ : ∃ h, h = wh % x.hands.toNat := ⟨_, rfl⟩
  rw [← hh] at hmk hmk2
  have hne : x.hands ≠ 0 := by omega
  have T0 := hid (L.told_fw HX.out HW.out)
  have hhn : h < x.hands.toNat := by omega
  clear hh
  obtain ⟨lx, hlx⟩ : ∃ m, Hid (m = P.proved x (2 ^ h)) := ⟨_, hid rfl⟩
  go_upto_region 4 with (go_at_call 25; refine (least_ok IW.out h1 h2 h3 hmk2 T0.out).mono ?_; rintro e w2 ⟨rfl, he2⟩; rw [← hlx.out]; have E := hid he2; have k7 := (B7.out.ext E.out).cell; have k7l := (B7.out.ext E.out).lt)
  go_upto_region 5 with (go_at_call 26; refine (proof_ok26 (IW.out.ext E.out) h1 h2 h3 hmk2 T0.out).mono ?_; rintro e w3 ⟨u, l, rfl, he3, hperm, -, hown⟩; have PG := hid (L.proof_good HX.out hhn hperm); have LL := hid hown; have hln : l.length ≤ 8 := (by rw [hperm.length_eq]; exact L.proof_len HX.out); obtain ⟨Al, cl, rfl, hrl⟩ := hown.slR; rw [rows2_length] at hrl ⊢; have RL := hid hrl; have E := hid (E.out.trans he3); have k7 := (B7.out.ext E.out).cell; have k7l := (B7.out.ext E.out).lt; clear hperm hown hrl)
  have HPE : Hid (P.provesE x h (rowsAt (rows2 l)) l.length = 0) := hid (by have := L.provesE_eq HX.out hhn PG.out.1; rw [PG.out.2.1, PG.out.2.2.1] at this; simpa [L.gT] using this)
  have HPV : Hid (P.provesV x h (rowsAt (rows2 l)) l.length = lx) := hid (by have := L.provesV_eq HX.out hhn PG.out.1; rw [PG.out.2.1, PG.out.2.2.1, PG.out.2.2.2] at this; rw [hlx.out]; simpa [L.gT] using this)
  go_upto_region 6 with (go_at_call 40; refine (provesP_any (IW.out.ext E.out) h1 h2 h3 (chk_of HX.out) hmk2 RL.out (by omega)).mono ?_; rintro e w4 ⟨rfl, he4⟩; rw [HPE.out, HPV.out]; have E := hid (E.out.trans he4); have k7 := (B7.out.ext E.out).cell; have k7l := (B7.out.ext E.out).lt; have RL := hid (RL.out.ext he4); have LL := hid (LL.out.ext he4))
  have IW4 := hid (IW.out.ext E.out)
  have B4 := hid (B7.out.ext E.out)
  have E4 := hid (EW.out.trans E.out)
  clear IW B7 EW E he2 he3 he4 HPE HPV
  go_upto_region 9 with (go_at_call 67; refine (fill67 _).mono ?_; rintro e w5 ⟨rfl, he5, hs5⟩; have S5 := hid (start_of (bytes_later HB'.out E4.out) he5 hs5); have F5 := hid he5; have k7 := (B4.out.ext he5).cell; have k7l := (B4.out.ext he5).lt; clear hs5 he5)
  obtain ⟨d, hd⟩ : ∃ d : SackD, Hid (d = ⟨w4.heap.size, A', n', cap'⟩) := ⟨_, hid rfl⟩
  have hdb : Hid (d.blk = w4.heap.size) := hid (by rw [hd.out])
  rw [← hd.out] at S5
  rw [← hdb.out]
  go_upto_region 11 with (go_at_call 73; refine (all73 (IW4.out.ext F5.out) hcn1.2).mono ?_; rintro e w6 ⟨u, rfl, he6, hst⟩; have F6 := hid he6; have ST := hid hst; obtain ⟨As, cs, rfl, hrs⟩ := hst.slR; rw [rows2_length] at hrs ⊢; clear hst hrs he6)
  rw [rows2_length] at ST
  clear k7 k7l
  obtain ⟨ns, hns⟩ : ∃ m, Hid (m = (stretches x.cn).length) := ⟨_, hid rfl⟩
  rw [← hns.out] at ST ⊢
  have hns1 : ns ≤ 64 := by rw [hns.out]; have := stretches_length x.cn; have := Nat.mul_le_mul hcn1.2 hcn1.2; omega
  obtain ⟨nl, hnl⟩ : ∃ m, Hid (m = l.length) := ⟨_, hid rfl⟩
  rw [← hnl.out]
  rw [← hnl.out] at RL hln
  have X0 : Hid (Sx d 0 w5 w6) := hid (Sx.ofExt F6.out)
  go_loopw [81] (fun j wr => ∃ i : Nat, i ≤ 8 ∧ j = .int .i64 (i : Int) ∧ Hid (Sx d (10 * i) w5 wr) ∧ Hid (OwnR wr w5.heap.size 51 2 (.slice As ns cs) (rows2 (stretches x.cn)))) (fun j _ => 8 - (intOf j).toNat)
  case atStart => exact ⟨0, by omega, rfl, X0, ST⟩
  case round =>
    clear X0 ST
    obtain ⟨i, hi, rfl, X, ST⟩ := hrel
    by_cases hi8 : i < 8
    · have EWr := hid (X.out.ext F5.out (by rw [hdb.out]; exact Nat.le_refl _))
      have hwr := X.out.2.1
      have hd5 : d.blk < w5.heap.size := S5.out.lt
      have hi8' : (i : Int) < 8 := by omega
      go_upto_region 15 with (first
        | (go_at_call 80; refine (clone80 (RL.out.ext EWr.out) (by omega)).mono ?_; rintro e w7 ⟨u, rfl, he7, hou⟩; have OU := hid hou; have F7 := hid he7; have X7 := hid (X.out.trans (Sx.ofExt he7)); have ST7 := hid (ST.out.ext he7); clear hou he7)
        | (go_at_call 81; refine (below_b S5.out X7.out (by omega) 3 (by omega)).mono ?_; rintro e w8 ⟨v, rfl, hv, x8⟩; have X8 := hid (X7.out.trans x8); have O8 := hid (OU.out.sx x8 (fun e => by have := OU.out.block e; omega)); have ST8 := hid (ST7.out.sx x8 (fun e => by have := ST7.out.block e; omega)); have hlw := x8.2.1; clear x8))
      have hv2 : v ≤ 2 := by omega
      have hu : rowsG 2 nl (rowsAt (rows2 l)) = rows2 l := by rw [hnl.out]; exact rowsG2 l
      rw [hu] at O8
      clear hu
      have hlw7 := F7.out.size
      have hSB := hid (fun g (hg : (Value.slice As ns cs).ownBlock = some g) => ST.out.lt hg)
      obtain ⟨Bo, hBo⟩ : ∃ m, Hid (m = wr.heap.size) := ⟨_, hid rfl⟩
      rw [← hBo.out] at O8 hlw7 hSB hwr
      go_loopw [20, 88] (fun ut j wt => ∃ (kk : Nat) (T : List (Nat × Nat)), kk ≤ v ∧ j = .int .i64 (kk : Int) ∧ Hid (TI x d w5 Bo ns As cs i l kk ut T wt)) (fun _ j _ => v - (intOf j).toNat)
      case atStart => exact ⟨0, l, by omega, rfl, hid ⟨O8.out, PG.out.1, by omega, fun _ => rfl, X8.out, ST8.out, by omega⟩⟩
      case round =>
        clear O8 X8 ST8 X7 ST7 OU
        obtain ⟨kk, T, hkv, rfl, TT⟩ := hrel
        by_cases hlt : kk < v
        · as_aux_lemma =>
            obtain ⟨At, ct, rfl, -⟩ := TT.out.o.slR
            have hTn : T.length ≤ 200 := by have := TT.out.n; have := hnl.out; omega
            have hlw9 := TT.out.lw
            go_wp2_with (first
              | (go_at_call 81; refine (below_b S5.out TT.out.sx (by omega) (ns : Int) (by omega)).mono ?_; rintro e w9 ⟨v2, rfl, hv2, x9⟩; have hv3 : v2 < ns := (by omega); have XX := hid x9; have hi9 : 0 < i := (by omega); have O9 := hid (TT.out.o.sx x9 (fun e => by have := TT.out.o.block e; omega)); have ST9 := hid (TT.out.st.sx x9 (fun e => by have := TT.out.st.block e; omega)); obtain ⟨a, b, hab, hbn, gs, os, hAs, hgs, q0, q1⟩ := pick_str ST9.out hns.out hv3; have hsz9 := x9.2.1; clear x9; have hv3i : (v2 : Int) < (ns : Int) := (by omega); have OX := hid (O9.out.ext ((Ext.refl _).alloc (.cells #[.int .i64 (a : Int), .int .i64 (b : Int)] 51))))
              | (at_builtin; go_loud (refine wpList_append_rows rfl _ _ 45 rfl elem45 rfl OX.out _ 1 1 [[_, _]] rfl rfl (by simp) (row2 (Blk.new _ _ _)) (by rw [rows2_length]; omega) (by simp; omega) ?_; intro v' w10 hown2 hg2; have HO2 := hid hown2; have HG2 := hid hg2; clear hown2 hg2)))
            all_goals
              try rw [← hAs]
              go_roundw
              case measure => simp [intOf]; omega
            case rel =>
              have hO := HO2.out
              rw [show rows2 T ++ [[(a : Int), (b : Int)]] = rows2 (T ++ [(a, b)]) from (rows2_append T [(a, b)]).symm] at hO
              have hg := HG2.out
              refine ⟨kk + 1, T ++ [(a, b)], by omega, by go_num, hid ⟨hO, strs_add TT.out.s hab hbn, by have := TT.out.n; simp; omega, fun h => by omega, ?_, ?_, ?_⟩⟩
              · exact (((TT.out.sx.trans XX.out).trans (Sx.ofExt ((Ext.refl _).alloc (.cells #[.int .i64 (a : Int), .int .i64 (b : Int)] 51)))).grown hg fun j hj => by have := OX.out.block hj; omega)
              · exact (ST9.out.ext ((Ext.refl _).alloc _)).grownBy_other hg fun g hg1 hg2 => by have := hSB.out g hg1; have := OX.out.block hg2.symm; omega
              · exact Nat.le_trans (by simp; omega) hg.size
            all_goals exact ⟨kk + 1, T, by omega, by go_num, hid ⟨TT.out.o, TT.out.s, by have := TT.out.n; omega, TT.out.z, TT.out.sx.mono (by omega), TT.out.st, TT.out.lw⟩⟩
        · obtain rfl : kk = v := by omega
          obtain ⟨At, ct, rfl, hrt⟩ := TT.out.o.slR
          rw [rows2_length] at hrt
          have RT := hid hrt
          have TT := hid TT.out
          rw [rows2_length] at TT ⊢
          obtain ⟨nt, hnt⟩ : ∃ m, Hid (m = T.length) := ⟨_, hid rfl⟩
          rw [← hnt.out]
          clear hrt hlt hkv
          have hnt1 : nt ≤ 10 := by have := TT.out.n; have := hnl.out; have := hnt.out; omega
          go_upto_region 19 with fail
          go_cut [115] (fun s115 wx => ∃ bt : Bool, s115 = .bool bt ∧ Hid (bt = (((i : Int) % 2 == 1) && decide (0 < nt))) ∧ wx = wr)
          case first =>
            cases hod : ((i : Int) % 2 == 1)
            all_goals
              go_wp2_with fail
              all_goals
                go_meet
                exact ⟨_, rfl, hid (by simp_all), rfl⟩
          case rest =>
            obtain ⟨bt, rfl, hbt, rfl⟩ := hcut
            go_upto_if 115 with fail
            go_cut [20] (fun s20 wx => ∃ (T2 : List (Nat × Nat)) (A2 : Option Addr) (c2 n2 : Nat), s20 = .slice A2 n2 c2 ∧ Hid (n2 = T2.length) ∧ Hid (TD x d w5 ns As cs i l A2 T2 wx))
            case first =>
              have D0 : Hid (TD x d w5 ns As cs i l At T wc) := hid ⟨RT.out, TT.out.s, by have := hnt.out; omega, TT.out.z, TT.out.sx.mono (by omega), TT.out.st⟩
              cases hb : bt
              · go_wp2_with fail
                go_meet
                exact ⟨T, At, ct, nt, rfl, hnt, D0⟩
              · have hb2 := hbt.out
                rw [hb] at hb2
                have hb3 := (Bool.and_eq_true _ _).mp hb2.symm
                have hnt0 : 0 < nt := of_decide_eq_true hb3.2
                have hi9 : i ≠ 0 := fun h => by subst h; simp at hb3
                have D1 := hid (del82 TT.out.o TT.out.lw (by rw [← hnt.out]; exact hnt0) (by rw [← hnt.out]; omega))
                rw [← hnt.out] at D1
                clear hb2 hb3
                go_wp2_with (go_at_call 82; refine D1.out.mono ?_; rintro e w9 ⟨c2, rfl, he9, hr9⟩)
                go_meet
                exact ⟨T.drop 1, At, c2, nt - 1, rfl, hid (by rw [List.length_drop, hnt.out]), hid ⟨hr9, strs_drop TT.out.s, by rw [List.length_drop, ← hnt.out]; omega, fun h => absurd h hi9, (TT.out.sx.cut he9 TT.out.lw hwr hd5).mono (by omega), TT.out.st.same fun g hg => cut_block he9 TT.out.lw (hSB.out g hg)⟩⟩
            case rest =>
              obtain ⟨T2, A2, c2, n2, rfl, hn2, D2⟩ := hcut
              obtain ⟨wD, rfl⟩ : ∃ W, W = wc := ⟨_, rfl⟩
              have EC := hid (D2.out.sx.ext F5.out (by rw [hdb.out]; exact Nat.le_refl _))
              have IWc := hid (IW4.out.ext EC.out)
              have BC := hid (B4.out.ext EC.out)
              have hn2b : n2 ≤ 12 := by have := D2.out.n; have := hn2.out; omega
              have RD2 : Hid (Rd wD A2 n2 2 (rowsAt (rows2 T2))) := hid (by rw [hn2.out]; exact D2.out.r)
              clear X ST EWr F7 hlw hlw7 hSB hBo hwr hv hv2 hnt hnt1 hbt k7 k7l LL RT TT
              have k7 := BC.out.cell
              have k7l := BC.out.lt
              go_upto_region 24 with (at_make; refine wpList_make56 rfl _ _ rfl x.cn _ _ rfl rfl (by omega) (by omega) (by omega) ?_; intro w10 he10 ha10; have F10 := hid he10; have A10 := hid ha10; clear he10 ha10)
              obtain ⟨g23, hg23⟩ : ∃ g, Hid (g = wD.heap.size) := ⟨_, hid rfl⟩
              rw [← hg23.out] at A10 ⊢
              clear k7 k7l
              go_loopw [21, 22, 124] (fun s21 s22 j wr => ∃ q : Nat, q ≤ n2 ∧ s21 = .int .i64 (L.sumG x T2 q) ∧ s22 = .bool (L.holdsTo x h T2 q) ∧ j = .int .i64 (q : Int) ∧ Hid (Arr wr g23 x.cn (fun i => L.usedTo x h T2 q i)) ∧ Hid (Ext wD wr)) (fun _ _ j _ => n2 - (intOf j).toNat)
              case atStart => exact ⟨0, by omega, rfl, rfl, rfl, A10, F10⟩
              case round =>
                clear A10 F10
                obtain ⟨q, hq, rfl, rfl, rfl, AR, FR⟩ := hrel
                by_cases hqn : q < n2
                · as_aux_lemma =>
                    have hqt : q < T2.length := by have := hn2.out; omega
                    obtain ⟨hab, hbn⟩ := D2.out.s q hqt
                    obtain ⟨ga, oa, rfl, hga, q0, q1⟩ := (RD2.out.ext FR.out).at2 hqn
                    rw [rows2_at0 _ hqt] at q0
                    rw [rows2_at1 _ hqt] at q1
                    have hsb := sumG_bd HX.out D2.out.s q (by omega)
                    have hgb := gapBd HX.out (show (nth T2 q).1 < x.cn by omega) hbn
                    obtain ⟨a, ha⟩ : ∃ a, Hid (a = (nth T2 q).1) := ⟨_, hid rfl⟩
                    obtain ⟨b, hb⟩ : ∃ b, Hid (b = (nth T2 q).2) := ⟨_, hid rfl⟩
                    obtain ⟨gp, hgp⟩ : ∃ z, Hid (z = R.gap x (nth T2 q).1 (nth T2 q).2) := ⟨_, hid rfl⟩
                    obtain ⟨sm, hsm⟩ : ∃ z, Hid (z = L.sumG x T2 q) := ⟨_, hid rfl⟩
                    obtain ⟨hl, hhl⟩ : ∃ z, Hid (z = L.holdsTo x h T2 q) := ⟨_, hid rfl⟩
                    rw [← hgp.out] at hgb
                    rw [← ha.out] at hab q0
                    rw [← hb.out] at hab hbn q1
                    rw [← hsm.out] at hsb ⊢
                    rw [← hhl.out]
                    have hqi : (q : Int) < (n2 : Int) := by omega
                    have hqb : (q : Int) ≤ 12 := by omega
                    go_upto_region 26 with fail
                    refine wp_later fun w11 hw11 => ?_
                    obtain ⟨E11, b25⟩ := hw11.newB
                    obtain ⟨g25, hg25⟩ : ∃ g, Hid (g = wr.heap.size) := ⟨_, hid rfl⟩
                    rw [← hg25.out] at b25 ⊢
                    have B25 := hid b25
                    have G1 := hid (FR.out.trans E11)
                    have AR1 := hid (AR.out.ext E11)
                    have hgne : Hid (g25 ≠ g23) := hid (by have := AR.out.1; have := hg25.out; omega)
                    clear hw11 b25 q0 q1 hga AR hqt E11
                    have IW1 := hid (IWc.out.ext G1.out)
                    have BW1 := hid (BC.out.ext G1.out)
                    have k7 := BW1.out.cell
                    have k7l := BW1.out.lt
                    have k25 := B25.out.cell
                    have k25l := B25.out.lt
                    have C74 := hid (fun W (e : Ext w11 W) => (by have := gap74 HX.out (IW1.out.ext e) hab hbn; rw [ha.out, hb.out, ← hgp.out, ← ha.out, ← hb.out] at this; exact this : Calls Tryz.prog 74 #[.agg #[.int .i64 x.hours, .int .i64 x.allow, .int .i64 x.hands, .slice A3 x.cn c3, .slice A4 x.bn c4, .slice A5 x.sn c5], .agg #[.int .i64 (a : Int), .int .i64 (b : Int)]] W fun e w' => e = .returned (.int .i64 gp) ∧ Ext W w'))
                    go_upto_region 29 with (first
                      | (go_at_call 83; refine (right83 IW1.out hab hbn).mono ?_; rintro e w12 ⟨rfl, he12⟩; have G2 := hid he12; have k7 := (BW1.out.ext G2.out).cell; have k7l := (BW1.out.ext G2.out).lt; have k25 := (B25.out.ext G2.out).cell; have k25l := (B25.out.ext G2.out).lt)
                      | (go_at_call 74; refine (C74.out _ G2.out).mono ?_; rintro e w13 ⟨rfl, he13⟩; have G3 := hid (G2.out.trans he13)))
                    clear k7 k7l k25 k25l
                    have k7 := (BW1.out.ext G3.out).cell
                    have k7l := (BW1.out.ext G3.out).lt
                    have k25 := (B25.out.ext G3.out).cell
                    have k25l := (B25.out.ext G3.out).lt
                    go_cut [22] (fun s22 wx => s22 = .bool (hl && decide (0 < gp)) ∧ Hid (Ext w11 wx))
                    case first =>
                      cases hl
                      · go_wp2_with fail
                        go_meet
                        exact ⟨rfl, G3⟩
                      · go_wp2_with (go_at_call 74; refine (C74.out _ G3.out).mono ?_; rintro e w14 ⟨rfl, he14⟩)
                        go_meet
                        exact ⟨rfl, hid (G3.out.trans he14)⟩
                    case rest =>
                      obtain ⟨rfl, GX⟩ := hcut
                      clear k7 k7l k25 k25l
                      have k7 := (BW1.out.ext GX.out).cell
                      have k7l := (BW1.out.ext GX.out).lt
                      obtain ⟨hb1, hhb1⟩ : ∃ z, Hid (z = (hl && decide (0 < gp))) := ⟨_, hid rfl⟩
                      rw [← hhb1.out]
                      go_upto_region 31 with fail
                      clear k7 k7l
                      go_loopw [22, 146] (fun s22 j wy => ∃ y : Nat, (y : Int) ≤ x.hands ∧ s22 = .bool (hb1 && L.aloneTo x h (a, b) y) ∧ j = .int .i64 (y : Int) ∧ Hid (Ext w11 wy)) (fun _ j _ => x.hands.toNat - (intOf j).toNat)
                      case atStart => exact ⟨0, by omega, by simp [L.aloneTo], rfl, GX⟩
                      case round =>
                        clear GX
                        obtain ⟨y, hy, rfl, rfl, GY⟩ := hrel
                        by_cases hyn : (y : Int) < x.hands
                        · have k7 := (BW1.out.ext GY.out).cell
                          have k7l := (BW1.out.ext GY.out).lt
                          have k25 := (B25.out.ext GY.out).cell
                          have k25l := (B25.out.ext GY.out).lt
                          obtain ⟨cb, hcb⟩ : ∃ z, Hid (z = (hb1 && L.aloneTo x h (a, b) y)) := ⟨_, hid rfl⟩
                          obtain ⟨isb, hisb⟩ : ∃ z, Hid (z = R.is x a b y) := ⟨_, hid rfl⟩
                          obtain ⟨eqb, heqb⟩ : ∃ z, Hid (z = ((y : Int) == (h : Int))) := ⟨_, hid rfl⟩
                          have hnext : Hid ((hb1 && L.aloneTo x h (a, b) (y + 1)) = (cb && (eqb || !isb))) := hid (by
                            rw [hcb.out, hisb.out, heqb.out, show ((y : Int) == (h : Int)) = decide ((y : Int) = h) from by rw [Bool.eq_iff_iff]; simp]
                            show (hb1 && (L.aloneTo x h (a, b) y && (decide ((y : Int) = h) || !R.is x a b y))) = _
                            rw [Bool.and_assoc])
                          have C84 := hid (fun W (e : Ext w11 W) => (by have := there84 HX.out (IW1.out.ext e) hab hbn y; rw [← hisb.out] at this; exact this : Calls Tryz.prog 84 #[.agg #[.int .i64 x.hours, .int .i64 x.allow, .int .i64 x.hands, .slice A3 x.cn c3, .slice A4 x.bn c4, .slice A5 x.sn c5], .int .i64 (y : Int), .int .i64 (a : Int), .int .i64 (b : Int)] W fun e w' => e = .returned (.bool isb) ∧ Ext W w'))
                          rw [← hcb.out]
                          have heq := heqb.out.symm
                          cases cb <;> cases eqb
                          all_goals
                            go_wp2_with (go_at_call 84; refine (C84.out _ GY.out).mono ?_; rintro e w15 ⟨rfl, he15⟩; have GZ := hid (GY.out.trans he15))
                            all_goals
                              go_roundw
                              case measure => simp [intOf]; omega
                              case rel => exact ⟨y + 1, by omega, by rw [hnext.out]; simp, by go_num, by first | exact GZ | exact GY⟩
                        · have hye := hid (show y = x.hands.toNat by omega)
                          have hgood : Hid ((hb1 && L.aloneTo x h (a, b) y) = L.holdsTo x h T2 (q + 1)) := hid (by
                            rw [hye.out, holds_succ, hhb1.out, hhl.out, ha.out, hb.out, hgp.out, Bool.and_assoc]; rfl)
                          rw [hgood.out]
                          clear hy
                          have k25 := (B25.out.ext GY.out).cell
                          have k25l := (B25.out.ext GY.out).lt
                          go_upto_region 36 with fail
                          clear k25 k25l hyn
                          have B25Y := hid (B25.out.ext GY.out)
                          have ARY := hid (AR1.out.ext GY.out)
                          have FRY := hid (G1.out.trans GY.out)
                          go_loopw [27] (fun j wk => ∃ k : Nat, a ≤ k ∧ k ≤ b ∧ j = .int .i64 (k : Int) ∧ Hid (Arr wk g23 x.cn (usedMid x h T2 q k)) ∧ Hid (Ext wD wk) ∧ Hid (Blk wk g25 51 #[.int .i64 (a : Int), .int .i64 (b : Int)])) (fun j _ => b - (intOf j).toNat)
                          case atStart => exact ⟨a, Nat.le_refl _, by omega, rfl, hid (ARY.out.congr fun i _ => by rw [ha.out]; exact usedMid_lo.symm), FRY, B25Y⟩
                          case round =>
                            clear B25Y ARY FRY
                            obtain ⟨k, hka, hkb, rfl, ARk, FRk, Bk⟩ := hrel
                            have k25 := Bk.out.cell
                            have k25l := Bk.out.lt
                            by_cases hkn : k < b
                            · have k7 := (BC.out.ext FRk.out).cell
                              have k7l := (BC.out.ext FRk.out).lt
                              have hki : (k : Int) < (b : Int) := by omega
                              have hkc : (k : Int) < (x.cn : Int) := by omega
                              obtain ⟨isb, hisb⟩ : ∃ z, Hid (z = R.is x k (k + 1) h) := ⟨_, hid rfl⟩
                              have C84 := hid ((by have := there84 HX.out (IWc.out.ext FRk.out) (show k < k + 1 by omega) (show k + 1 < x.cn by omega) h; rw [← hisb.out] at this; exact this : Calls Tryz.prog 84 #[.agg #[.int .i64 x.hours, .int .i64 x.allow, .int .i64 x.hands, .slice A3 x.cn c3, .slice A4 x.bn c4, .slice A5 x.sn c5], .int .i64 (h : Int), .int .i64 (k : Int), .int .i64 ((k : Int) + 1)] wr fun e w' => e = .returned (.bool isb) ∧ Ext wr w'))
                              cases isb
                              · go_wp2_with (go_at_call 84; refine C84.out.mono ?_; rintro e w16 ⟨rfl, he16⟩)
                                go_roundw
                                case rel => exact ⟨k + 1, by omega, by omega, by go_num, hid ((ARk.out.ext he16).congr fun i _ => (usedMid_no hisb.out.symm).symm), hid (FRk.out.trans he16), hid (Bk.out.ext he16)⟩
                                case measure => simp [intOf]; omega
                              · obtain ⟨uz, huz⟩ : ∃ z, Hid (z = usedMid x h T2 q k k) := ⟨_, hid rfl⟩
                                have huzb : 0 ≤ uz ∧ uz ≤ (q : Int) + 1 := by rw [huz.out]; exact usedMid_bd
                                go_wp2_with (go_at_call 84; refine C84.out.mono ?_; rintro e w16 ⟨rfl, he16⟩; have AZ := hid (ARk.out.ext he16); have c0 := AZ.out.cell (i := k) (by omega); rw [← huz.out] at c0; have f0 := AZ.out.frozen (i := k) (by omega); have al := AZ.out.1)
                                go_roundw
                                case rel =>
                                  refine ⟨k + 1, by omega, by omega, by go_num, hid ((AZ.out.set_ k (uz + 1) (by omega)).congr fun i _ => ?_), hid ((FRk.out.trans he16).setCell _ (by have := hg23.out; show wD.heap.size ≤ g23; omega)), hid ((Bk.out.ext he16).far hgne.out _)⟩
                                  rw [usedMid_yes hisb.out.symm (by rw [← ha.out]; exact hka), huz.out]
                                case measure => simp [intOf]; omega
                            · obtain rfl : k = b := by omega
                              go_wp2_with fail
                              go_roundw
                              case rel => exact ⟨q + 1, by omega, by rw [hsm.out, hgp.out]; rfl, rfl, by go_num, hid (ARk.out.congr fun i _ => by rw [hb.out]; exact usedMid_hi), FRk⟩
                              case measure => simp [intOf]; omega
                · as_aux_lemma =>
                    obtain rfl : q = n2 := by omega
                    clear hqn hq
                    have k7 := (BC.out.ext FR.out).cell
                    have k7l := (BC.out.ext FR.out).lt
                    obtain ⟨tw, htw⟩ : ∃ b, Hid (b = L.twiceB x h T2) := ⟨_, hid rfl⟩
                    obtain ⟨ho, hho⟩ : ∃ b, Hid (b = L.holdsTo x h T2 q) := ⟨_, hid rfl⟩
                    obtain ⟨sm, hsm⟩ : ∃ z, Hid (z = L.sumG x T2 q) := ⟨_, hid rfl⟩
                    rw [← hho.out, ← hsm.out]
                    have HA86 := asks86 wr x.cn (fun k => L.usedTo x h T2 q k)
                    have C85 := hid (containsFunc85 (cap := x.cn) AR.out.rd1 (by omega) HA86)
                    clear HA86
                    have HTW : Hid (anyTo (fun k => decide (1 < L.usedTo x h T2 q k)) x.cn = tw) := hid (by rw [htw.out, hn2.out]; rfl)
                    have HE : Hid (P.provesE x h (rowsAt (rows2 T2)) q = if ho then (if tw then 5 else 0) else 8) := hid (by rw [hho.out, htw.out, hn2.out]; exact L.provesE_eq HX.out hhn D2.out.s)
                    have HV : Hid (P.provesV x h (rowsAt (rows2 T2)) q = if ho && !tw then sm else 0) := hid (by rw [hho.out, htw.out, hsm.out, hn2.out]; exact L.provesV_eq HX.out hhn D2.out.s)
                    have hz : Hid (i = 0 → ho = true ∧ tw = false ∧ sm = lx) := hid fun h0 => by
                      have e := D2.out.z h0
                      rw [hho.out, htw.out, hsm.out, hlx.out, hn2.out, e]
                      exact ⟨PG.out.2.1, PG.out.2.2.1, PG.out.2.2.2⟩
                    have hle : Hid (ho = true → tw = false → sm ≤ lx) := hid fun e1 e2 => by
                      rw [hho.out, hn2.out] at e1
                      rw [htw.out] at e2
                      rw [hsm.out, hlx.out, hn2.out]
                      exact L.sumG_le HX.out HW.out hhn D2.out.s e1 e2
                    go_upto_region 43 with (first
                      | (go_at_call 85; refine C85.out.mono ?_; rintro e w11 ⟨rfl, he11⟩; rw [HTW.out]; have F11 := hid he11; have k7 := ((BC.out.ext FR.out).ext F11.out).cell; have k7l := ((BC.out.ext FR.out).ext F11.out).lt)
                      | (go_at_call 40; refine (provesP_any ((IWc.out.ext FR.out).ext F11.out) h1 h2 h3 (chk_of HX.out) hmk2 ((RD2.out.ext FR.out).ext F11.out) (by omega)).mono ?_; rintro e w12 ⟨rfl, he12⟩; rw [HE.out, HV.out]; have F12 := hid he12))
                    have F := hid (FR.out.trans (F11.out.trans F12.out))
                    have REL : Hid (Sx d (10 * (i + 1)) w5 w12 ∧ OwnR w12 w5.heap.size 51 2 (.slice As ns cs) (rows2 (stretches x.cn))) := hid ⟨(D2.out.sx.trans (Sx.ofExt F.out)).mono (by omega), D2.out.st.ext F.out⟩
                    clear k7 k7l C85 HTW HE HV
                    cases ho
                    · have hi0 : i ≠ 0 := fun h0 => by have := (hz.out h0).1; cases this
                      have hib : ((i : Int) == 0) = false := by simp; omega
                      simp only [Bool.false_eq_true, if_false]
                      clear hz hle htw hho hsm
                      go_wp2_with fail
                      go_roundw
                      case rel => exact ⟨i + 1, by omega, by go_num, hid REL.out.1, hid REL.out.2⟩
                      case measure => simp [intOf]; omega
                    · cases tw
                      · have hsl : ¬ lx < sm := by have := hle.out rfl rfl; omega
                        have hsi : ((i : Int) == 0) = false ∨ sm = lx := by
                          by_cases h0 : i = 0
                          · exact .inr (hz.out h0).2.2
                          · exact .inl (by simp; omega)
                        simp only [if_true, Bool.false_eq_true, if_false]
                        clear hz hle htw hho hsm
                        rcases hsi with hib | rfl
                        all_goals
                          go_wp2_with fail
                          all_goals
                            go_roundw
                            case rel => exact ⟨i + 1, by omega, by go_num, hid REL.out.1, hid REL.out.2⟩
                            case measure => simp [intOf]; omega
                      · have hi0 : i ≠ 0 := fun h0 => by have := (hz.out h0).2.1; cases this
                        have hib : ((i : Int) == 0) = false := by simp; omega
                        simp only [if_true]
                        clear hz hle htw hho hsm
                        go_wp2_with fail
                        go_roundw
                        case rel => exact ⟨i + 1, by omega, by go_num, hid REL.out.1, hid REL.out.2⟩
                        case measure => simp [intOf]; omega
    · obtain rfl : i = 8 := by omega
      go_wp2_with (go_at_call 18; refine (awake_any _).mono ?_; rintro e wz ⟨rfl, hez⟩)
      go_ret
      exact ⟨rfl, E4.out.trans ((X.out.ext F5.out (by rw [hdb.out]; exact Nat.le_refl _)).trans hez)⟩
end Go.Proofs.YtkhjmedfhobebaaGreat
