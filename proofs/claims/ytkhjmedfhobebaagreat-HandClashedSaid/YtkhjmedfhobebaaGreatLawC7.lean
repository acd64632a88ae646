/- Walk of the law of clashes: for all numbers, and any change, it returns true. No condition. -/
import Derived.Test.YtkhjmedfhobebaaGreatClashP
import Derived.Test.YtkhjmedfhobebaaGreatLawB
import Derived.Test.YtkhjmedfhobebaaGreatDoK
import Derived.Test.YtkhjmedfhobebaaGreatDoP
import Derived.Test.YtkhjmedfhobebaaGreatDoQ
import Derived.Test.YtkhjmedfhobebaaGreatDoX
namespace Go.Proofs.YtkhjmedfhobebaaGreat
open Go.RowKit HandSpec
set_option maxHeartbeats 3200000
set_option maxRecDepth 100000
theorem rowsG_rows {c : Nat} {l : List (List Int)} (h : ∀ r ∈ l, r.length = c) : rowsG c l.length (rowsAt l) = l := by
  apply List.ext_getElem (by simp [rowsG])
  intro i h1 h2
  have hr := h l[i] (List.getElem_mem h2)
  unfold rowsG rowsAt
  apply List.ext_getElem
  · simp [hr]
  · intro j h3 h4
    simp [h2, h4]
theorem ByteS.ext {w w' : World} {A : Option Addr} {n : Nat} (h : ByteS w A n) (e : Ext w w') : ByteS w' A n := fun hn => by
  obtain ⟨b, o, h1, h2, h3⟩ := h hn
  exact ⟨b, o, h1, Nat.lt_of_lt_of_le h2 e.size, fun k hk => by
    obtain ⟨c, hc⟩ := h3 k hk
    exact ⟨c, e.some_ hc⟩⟩
theorem chMono {S T : Nat → Prop} {w w' : World} (h : Ch S w w') (k : ∀ b, S b → T b) : Ch T w w' := ⟨h.size, fun b hb ht => h.block b hb fun hs => ht (k b hs)⟩
theorem rdCh {S : Nat → Prop} {w w' : World} {A : Option Addr} {n c : Nat} {g : Nat → Nat → Int} (h : Rd w A n c g) (C : Ch S w w') (hs : ∀ b o, A = some ⟨b, o, none⟩ → ¬ S b) : Rd w' A n c g := fun hn => by
  obtain ⟨b, o, hA, hc⟩ := h hn
  refine ⟨b, o, hA, fun k hk j hj => ?_⟩
  have h1 := hc k hk j hj
  have hl := World.block_lt_of_cell? w _ h1
  have e := C.block b hl (hs b o hA)
  simp only [World.cell?, e] at h1 ⊢
  exact h1
/-- DeleteFunc over spells that are one's own, or none. -/
theorem del88 {w0 w : World} {A : Option Addr} {cap n B : Nat} {s : Nat → Nat → Int} {fv : Value} {q : Nat → Bool} (he0 : Ext w0 w) (hB : w0.heap.size ≤ B) (hn : n ≤ 1000) (o : OwnR w B 114 3 (.slice A n cap) (rowsG 3 n s))
    (ha : ∀ g, (Value.slice A n cap).ownBlock = some g → AsksC w g fv n (enc3 s) (fun k => !q k)) (ha0 : Asks w fv n (enc3 s) (fun k => !q k)) :
    Calls Tryz.prog 88 #[.slice A n cap, fv] w fun e w' => e = .returned (.slice A (keptL q n).length cap) ∧ Ext w0 w' ∧ Ch (fun b => (Value.slice A n cap).ownBlock = some b) w w' ∧ Rd w' A (keptL q n).length 3 (fun a c => s ((keptL q n).getD a 0) c) := by
  rcases OwnR.arr o with ⟨h1, h2⟩ | ⟨g, cap', h1, h2, h3, h4⟩
  · have hn0 : n = 0 := by have := congrArg List.length h2; rw [rowsG_length] at this; exact this
    subst hn0
    simp only [Value.slice.injEq] at h1
    obtain ⟨rfl, -, rfl⟩ := h1
    obtain ⟨fn, caps, rfl, hfn, hf⟩ := ha0
    have HS : Hid (Asks w (.func (.func fn) #[] caps) 0 (enc3 s) (fun k => !q k)) := hid ⟨fn, caps, rfl, hfn, hf⟩
    have HI := hid (show firstI (fun k => !q k) 0 = -1 from firstI_no fun j hj => by omega)
    clear hf ha o h2
    go_enter Tryz.func88, Tryz.ntmps88
    go_wp2_with (go_at_call 189; refine (indexFunc189 (g := s) Rd.nil (by omega) HS.out).mono ?_; rintro e w1 ⟨rfl, he1⟩; rw [HI.out])
    go_ret
    exact ⟨rfl, he0.trans he1, chMono (Ch.ofExt he1) fun _ h => h.elim, Rd.nil⟩
  · simp only [Value.slice.injEq] at h1
    obtain ⟨rfl, -, rfl⟩ := h1
    rw [rowsG_length] at h3 h4
    have h5 : Arr w g (n * 3) (fun i => s (i / 3) (i % 3)) := h4.congr fun i hi => rowsG_at (by omega) (Nat.mod_lt _ (by omega))
    refine (deleteFunc88 he0 (by omega) hn h3 h5 (ha g rfl)).mono ?_
    rintro e w' ⟨rfl, h6, h7, h8⟩
    exact ⟨rfl, h6, chMono h7 fun b hb => by rw [show b = g from hb]; rfl, h8⟩
/-- What Made returns, with its parts as its caller's own. -/
theorem made_own {A : Option Addr} {n cap : Nat} {w wa : World} (st : Start ⟨w.heap.size, A, n, cap⟩ wa) (e : Ext w wa) {mc mh : Int} (hc : 1 ≤ mc ∧ mc ≤ 8) (hh : 1 ≤ mh ∧ mh ≤ 6) :
    Calls Tryz.prog 72 #[.pointer (some ⟨w.heap.size, 0, none⟩), .int .i64 mc, .int .i64 mh] wa fun e' wb => ∃ (x : WD) (s : Nat → Int) (t : Nat → Nat → Int) (A3 : Option Addr) (c3 : Nat) (A4 : Option Addr) (c4 : Nat) (A5 : Option Addr) (c5 : Nat) (v6 v7 : Value),
      e' = .returned (.tuple #[.agg #[.int .i64 x.hours, .int .i64 x.allow, .int .i64 x.hands, .slice A3 x.cn c3, .slice A4 x.bn c4, .slice A5 x.sn c5], v6, v7]) ∧
      OwnR wb w.heap.size 79 3 (.slice A3 x.cn c3) (rowsG 3 x.cn x.c) ∧ OwnR wb w.heap.size 119 2 (.slice A4 x.bn c4) (rowsG 2 x.bn x.b) ∧ OwnR wb w.heap.size 114 3 (.slice A5 x.sn c5) (rowsG 3 x.sn x.s) ∧ Ok x ∧ L.Truth x s t ∧ Ext w wb := by
  refine (made72 st hc hh).mono ?_
  rintro e' wb ⟨hours, al, nh, M, L, C, s, t, v3, v4, v5, v6, lc, rfl, R⟩
  obtain ⟨A3, c3, rfl, -⟩ := R.o3.slR
  obtain ⟨A4, c4, rfl, -⟩ := R.o4.slR
  obtain ⟨A5, c5, rfl, -⟩ := R.o5.slR
  refine ⟨MadeS.wd hours al nh M L C, ni s, _, A3, c3, A4, c4, A5, c5, _, _, rfl, ?_, ?_, ?_, R.ok, R.tr, R.x.ext e (Nat.le_refl _)⟩
  · have := R.o3.base (B' := w.heap.size) e.size
    show OwnR wb _ 79 3 (.slice A3 C.length c3) (rowsG 3 C.length (rowsAt C))
    rw [rowsG_rows R.o3.1]; exact this
  · have := R.o4.base (B' := w.heap.size) e.size
    show OwnR wb _ 119 2 (.slice A4 M.length c4) (rowsG 2 M.length (rowsAt M))
    rw [rowsG_rows R.o4.1]; exact this
  · have := R.o5.base (B' := w.heap.size) e.size
    show OwnR wb _ 114 3 (.slice A5 L.length c5) (rowsG 3 L.length (rowsAt L))
    rw [rowsG_rows R.o5.1]; exact this
/-- The watch behind the change. -/
structure Cl (w : World) (g7 : Nat) (y : WD) (A3 : Option Addr) (c3 : Nat) (A4 : Option Addr) (c4 : Nat) (A5 : Option Addr) (c5 : Nat) (W : World) : Prop where
  e : Ext w W
  b7 : Blk W g7 26 #[.int .i64 y.hours, .int .i64 y.allow, .int .i64 y.hands, .slice A3 y.cn c3, .slice A4 y.bn c4, .slice A5 y.sn c5]
  iw : IsW W (.agg #[.int .i64 y.hours, .int .i64 y.allow, .int .i64 y.hands, .slice A3 y.cn c3, .slice A4 y.bn c4, .slice A5 y.sn c5]) y
  ok : Ok y
  g7 : w.heap.size ≤ g7
/-- One count is set. -/
theorem cl_set {w w1 : World} {g7 b3 k : Nat} {x : WD} {c3 c4 c5 : Nat} {A4 A5 : Option Addr} (hk : k < x.cn) (E : Ext w w1) (hg : w.heap.size ≤ g7) (hb3 : w.heap.size ≤ b3) (hx : Ok x)
    (o3 : OwnR w1 w.heap.size 79 3 (.slice (some ⟨b3, 0, none⟩) x.cn c3) (rowsG 3 x.cn x.c)) (o4 : OwnR w1 w.heap.size 119 2 (.slice A4 x.bn c4) (rowsG 2 x.bn x.b)) (o5 : OwnR w1 w.heap.size 114 3 (.slice A5 x.sn c5) (rowsG 3 x.sn x.s))
    (b7 : Blk w1 g7 26 #[.int .i64 x.hours, .int .i64 x.allow, .int .i64 x.hands, .slice (some ⟨b3, 0, none⟩) x.cn c3, .slice A4 x.bn c4, .slice A5 x.sn c5]) {n : Int} (hn : 0 ≤ n ∧ n ≤ 500) :
    Cl w g7 (setc x k n) (some ⟨b3, 0, none⟩) c3 A4 c4 A5 c5 ((w1.setCell ⟨b3, k * 3 + 1, none⟩ (.int .i64 n)).setCell ⟨b3, k * 3 + 1 + 1, none⟩ (.int .i64 n)) := by
  have hne : g7 ≠ b3 := fun e => o3.ne_blk b7 (by decide) (by rw [e]; rfl)
  exact ⟨(E.setCell _ hb3).setCell _ hb3, (b7.far hne _).far hne _, setC hk n o3 o4 o5, setc_ok hx k hn, hg⟩
/-- The spells of one hand go. -/
theorem cl_del {w w1 w2 : World} {g7 b3 : Nat} {x : WD} {q : Nat → Bool} {c3 c4 c5 : Nat} {A4 A5 : Option Addr} (E : Ext w w2) (hg : w.heap.size ≤ g7) (hx : Ok x)
    (o3 : OwnR w1 w.heap.size 79 3 (.slice (some ⟨b3, 0, none⟩) x.cn c3) (rowsG 3 x.cn x.c)) (o4 : OwnR w1 w.heap.size 119 2 (.slice A4 x.bn c4) (rowsG 2 x.bn x.b)) (o5 : OwnR w1 w.heap.size 114 3 (.slice A5 x.sn c5) (rowsG 3 x.sn x.s))
    (b7 : Blk w1 g7 26 #[.int .i64 x.hours, .int .i64 x.allow, .int .i64 x.hands, .slice (some ⟨b3, 0, none⟩) x.cn c3, .slice A4 x.bn c4, .slice A5 x.sn c5])
    (C : Ch (fun b => (Value.slice A5 x.sn c5).ownBlock = some b) w1 w2) (r : Rd w2 A5 (keptL q x.sn).length 3 (fun a c => x.s ((keptL q x.sn).getD a 0) c)) :
    Cl w g7 (keepS x q) (some ⟨b3, 0, none⟩) c3 A4 c4 A5 c5 (w2.setCell ⟨g7, 5, none⟩ (.slice A5 (keptL q x.sn).length c5)) := by
  have B2 := C.blk b7 (o5.ne_blk b7 (by decide))
  have p3 := C.own o3 fun g hg he => o3.apart' o5 (by decide) g hg he.symm
  have p4 := C.own o4 fun g hg he => o4.apart' o5 (by decide) g hg he.symm
  have c7 := Ch.ofSet w2 g7 5 (.slice A5 (keptL q x.sn).length c5)
  have hA5 : ∀ b o, A5 = some ⟨b, o, none⟩ → b ≠ g7 := fun b o hA he => by
    rcases OwnR.arr o5 with ⟨h1, -⟩ | ⟨g, cap', h1, -, -, -⟩
    · simp only [Value.slice.injEq] at h1
      rw [h1.1] at hA; cases hA
    · simp only [Value.slice.injEq] at h1
      rw [h1.1] at hA
      simp only [Option.some.injEq, Addr.mk.injEq] at hA
      exact o5.ne_blk b7 (by decide) (by rw [h1.1, hA.1, he]; rfl)
  exact ⟨E.setCell _ hg, B2.set_ 5 _, ⟨_, _, _, _, _, _, rfl, rd_of (c7.own p3 fun g hg he => p3.ne_blk B2 (by decide) (hg.trans (congrArg some he))), rd_of (c7.own p4 fun g hg he => p4.ne_blk B2 (by decide) (hg.trans (congrArg some he))), rdCh r c7 hA5⟩, keepS_ok hx q, hg⟩
theorem Cl.ext {w W W' : World} {g7 : Nat} {y : WD} {A3 : Option Addr} {c3 : Nat} {A4 : Option Addr} {c4 : Nat} {A5 : Option Addr} {c5 : Nat} (t : Cl w g7 y A3 c3 A4 c4 A5 c5 W) (e : Ext W W') : Cl w g7 y A3 c3 A4 c4 A5 c5 W' :=
  ⟨t.e.trans e, t.b7.ext e, t.iw.ext e, t.ok, t.g7⟩
/-- The hands that are listed. -/
structure HL (wc : World) (g12 h : Nat) (Ah : Option Addr) (ch : Nat) (W : World) : Prop where
  e : Ext wc W
  b : Blk W g12 56 #[.slice Ah h ch]
  o : OwnR W (g12 + 1) 3 1 (.slice Ah h ch) (rows1 (List.range h))
theorem HL.ext {wc W W' : World} {g12 h : Nat} {Ah : Option Addr} {ch : Nat} (t : HL wc g12 h Ah ch W) (e : Ext W W') : HL wc g12 h Ah ch W' := ⟨t.e.trans e, t.b.ext e, t.o.ext e⟩
theorem asks91 {w : World} {g7 g12 : Nat} {y : WD} {A3 : Option Addr} {c3 : Nat} {A4 : Option Addr} {c4 : Nat} {A5 : Option Addr} {c5 : Nat} {W wc : World} {Ah : Option Addr} {ch : Nat} (t : Cl w g7 y A3 c3 A4 c4 A5 c5 W) (h : HL wc g12 y.hands.toNat Ah ch W) :
    Asks W (.func (.func 91) #[] #[.pointer (some ⟨g7, 0, none⟩), .pointer (some ⟨g12, 0, none⟩)]) (stretches y.cn).length (enc2 (rowsAt (rows2 (stretches y.cn)))) (L.clashK y) :=
  ⟨_, _, rfl, enters_ Tryz.func91 (by kernel_rfl) rfl, fun k hk W' e => by
    have hm : nth (stretches y.cn) k ∈ stretches y.cn := by rw [nth_get _ hk]; exact List.getElem_mem hk
    obtain ⟨ha, hb⟩ := mem_stretches.1 hm
    unfold enc2
    rw [rows2_at0 _ hk, rows2_at1 _ hk]
    have hs : SlR W' 1 (.slice Ah y.hands.toNat ch) (rows1 (L.allH y)) := (h.o.ext e).slR
    exact run91 t.ok (t.b7.ext e) (t.iw.ext e) (h.b.ext e) hs ha hb⟩
/-- All stretches, and one of them. -/
def StrS (n : Nat) : MSpec := fun v _ _ w => SlR w 2 v (rows2 (stretches n))
def PairS (a b : Nat) : MSpec := fun v _ _ _ => v = .agg #[.int .i64 (a : Int), .int .i64 (b : Int)]
theorem law13 {A : Option Addr} {n cap : Nat} {w : World} (hb : ByteS w A n) {wh bym : Nat} (hwh : wh < 256) (hby : bym < 256) :
    Calls Tryz.prog 13 #[.slice A n cap, .int .u8 (wh : Int), .int .u8 (bym : Int)] w fun e w' => e = .returned (.bool true) ∧ Ext w w' := by
  have HB := hid hb
  clear hb
  go_enter Tryz.func13, Tryz.ntmps13
  go_upto_region 1 with fail
  refine wp_later fun w0 hw0 => ?_
  obtain ⟨E0, b4⟩ := hw0.newB
  obtain ⟨g4, hg4⟩ : ∃ g, g = w.heap.size := ⟨_, rfl⟩
  rw [← hg4] at b4 ⊢
  have hg4w : w.heap.size ≤ g4 := by omega
  clear hw0 hg4
  go_upto_region 2 with (first
    | (go_at_call 67; refine (fill67 _).mono ?_; rintro e wa ⟨rfl, hea, hsa⟩; have ST := hid (start_of (HB.out.ext E0) hea hsa); have EA := hid hea; clear hsa hea)
    | (go_at_call 72; refine (made_own ST.out EA.out (mc := 8) (mh := 4) (by omega) (by omega)).mono ?_; rintro e wb ⟨x, s, t, A3, c3, A4, c4, A5, c5, v6, v7, rfl, o3, o4, o5, hx, -, heb⟩))
  refine wp_later fun w1 hw1 => ?_
  obtain ⟨E1, b7⟩ := hw1.newB
  have O3 := hid ((o3.ext E1).base E0.size)
  have O4 := hid ((o4.ext E1).base E0.size)
  have O5 := hid ((o5.ext E1).base E0.size)
  have B4 := hid (b4.ext (heb.trans E1))
  have EW := hid (E0.trans (heb.trans E1))
  have HX := hid hx
  have hcn1 := hx.cn
  obtain ⟨g7, hg7⟩ : ∃ g, g = wb.heap.size := ⟨_, rfl⟩
  have hg7w : w.heap.size ≤ g7 := by have := E0.size; have := heb.size; omega
  have hg47 : g4 < g7 := by have := b4.lt; have := heb.size; omega
  rw [← hg7] at b7 ⊢
  obtain ⟨b3, rfl, hb3, a3⟩ := own_arr (by omega) O3.out
  have B7 := hid b7
  obtain ⟨hmk, hmk2⟩ := tmodN wh (show 0 < (x.cn : Int) by omega)
  obtain ⟨k, hk⟩ : ∃ k, k = wh % (x.cn : Int).toNat := ⟨_, rfl⟩
  rw [← hk] at hmk hmk2
  have hne : (x.cn : Int) ≠ 0 := by omega
  clear o3 o4 o5 hx heb hw1 E1 hg7 ST EA b4 b7 E0 hk
  have k4 := B4.out.cell
  have k4l := B4.out.lt
  have k7 := B7.out.cell
  have k7l := B7.out.lt
  go_upto_if 42 with fail
  go_cut [7] (fun s7 wx => ∃ (y : WD) (A3 : Option Addr) (c3 : Nat) (A4 : Option Addr) (c4 : Nat) (A5 : Option Addr) (c5 : Nat), s7 = .pointer (some ⟨g7, 0, none⟩) ∧ Hid (Cl w g7 y A3 c3 A4 c4 A5 c5 wx))
  case rest =>
    obtain ⟨y, A3, c3, A4, c4, A5, c5, rfl, T⟩ := hcut
    have hh := T.out.ok.hands
    have h1 : y.cn ≤ 1000 := by have := T.out.ok.cn; omega
    have h2 : y.bn ≤ 1000 := by have := T.out.ok.bn; omega
    have h3 : y.sn ≤ 1000 := by have := T.out.ok.sn; omega
    have hcy := T.out.ok.cn
    have OKY := hid T.out.ok
    clear k4 k4l k7 k7l B4 B7 O3 O4 O5 a3 hb3 hmk hmk2 hne hcn1 HX EW hg47
    have k7 := T.out.b7.cell
    have k7l := T.out.b7.lt
    go_upto_region 8 with fail
    refine wp_later fun w2 hw2 => ?_
    obtain ⟨E2, b12⟩ := hw2.newB
    obtain ⟨g12, hg12⟩ : ∃ g, g = wc.heap.size := ⟨_, rfl⟩
    rw [← hg12] at b12 ⊢
    have H0 : Hid (HL wc g12 0 none 0 w2) := hid ⟨E2, b12, OwnR.nil⟩
    have hg12' : wc.heap.size ≤ g12 := by omega
    clear hw2 hg12 b12
    replace k7 := (T.out.b7.ext E2).cell
    replace k7l := (T.out.b7.ext E2).lt
    go_upto_region 9 with fail
    clear k7 k7l
    go_loopw [72] (fun j wr => ∃ (h : Nat) (Ah : Option Addr) (ch : Nat), (h : Int) ≤ y.hands ∧ j = .int .i64 (h : Int) ∧ Hid (HL wc g12 h Ah ch wr)) (fun j _ => y.hands.toNat - (intOf j).toNat)
    case atStart => exact ⟨0, none, 0, by omega, rfl, H0⟩
    case round =>
      clear H0
      obtain ⟨h, Ah, ch, hle, rfl, HH⟩ := hrel
      by_cases hlt : (h : Int) < y.hands
      · have OX := hid (HH.out.o.ext ((Ext.refl _).alloc (.cells #[.int .i64 (h : Int)] 3)))
        have BX := hid (HH.out.b.ext ((Ext.refl _).alloc (.cells #[.int .i64 (h : Int)] 3)))
        have hsz := HH.out.b.lt
        have k12 := HH.out.b.cell
        have k12l := HH.out.b.lt
        go_wp2_with (at_builtin; go_loud (refine wpList_append_rows rfl _ _ 56 rfl el56 rfl OX.out _ 1 1 [[_]] rfl rfl (by simp) (row1 (Blk.new _ _ _)) (by simp [rows1]; omega) (by simp; omega) ?_; intro v' w5 hown2 hg2; have HO2 := hid hown2; have HG2 := hid hg2; have BY := hid (BX.out.grown hg2 (fun e => by have := OX.out.block e.symm; omega)); obtain ⟨G3, q3, rfl, -⟩ := hown2.slR; clear hown2 hg2; have k3 := BY.out.cell; have fz3 := BY.out.frozen; have k3l := BY.out.lt))
        go_roundw
        case rel =>
          have hO := HO2.out
          rw [show rows1 (List.range h) ++ [[(h : Int)]] = rows1 (List.range (h + 1)) by simp [List.range_succ, rows1]] at hO
          rw [show (rows1 (List.range h)).length + 1 = h + 1 by rw [rows1_length, List.length_range]]
          rw [show (rows1 (List.range (h + 1))).length = h + 1 by simp [rows1]] at hO
          have c5 := Ch.ofSet w5 g12 0 (.slice G3 (h + 1) q3)
          exact ⟨h + 1, G3, q3, by omega, by go_num, hid ⟨(Ext.grown (HH.out.e.alloc _) HG2.out (fun j hj => by have := OX.out.block hj; omega)).setCell _ hg12', BY.out.set_ 0 _, c5.own hO fun b hb he => hO.ne_blk BY.out (by decide) (hb.trans (congrArg some he))⟩⟩
        case measure => simp [intOf]; omega
      · obtain rfl : h = y.hands.toNat := by omega
        have TW := hid (T.out.ext HH.out.e)
        have k7 := TW.out.b7.cell
        have k7l := TW.out.b7.lt
        have hsl : (stretches y.cn).length ≤ 1000 := by have := stretches_length y.cn; have := Nat.mul_le_mul hcy.2 hcy.2; omega
        clear hlt hle
        obtain ⟨fi, hfi⟩ : ∃ z, Hid (z = firstI (L.clashK y) (stretches y.cn).length) := ⟨_, hid rfl⟩
        go_upto_region 14 with (first
          | (go_at_call 73; refine (all73 TW.out.iw hcy.2).mono ?_; rintro e w3 ⟨u, rfl, he3, hst⟩; obtain ⟨As, cs, rfl, hrs⟩ := hst.slR; rw [rows2_length] at hrs ⊢; have HRS := hid hrs; have T3 := hid (TW.out.ext he3); have H3 := hid (HH.out.ext he3); clear hst hrs)
          | (go_at_call 90; refine (indexFunc90 HRS.out (by omega) (asks91 T3.out H3.out)).mono ?_; rintro e w4 ⟨rfl, he4⟩; rw [← hfi.out]; have T4 := hid (T3.out.ext he4); have H4 := hid (H3.out.ext he4)))
        clear k7 k7l
        have k7 := T4.out.b7.cell
        have k7l := T4.out.b7.lt
        have R4 : Hid (Rd w4 Ah y.hands.toNat 1 (rowsAt (rows1 (L.allH y)))) := hid (by
          obtain ⟨A, cap, e, hr⟩ := H4.out.o.slR
          simp only [Value.slice.injEq] at e
          obtain ⟨rfl, -, -⟩ := e
          rw [rows1_length, List.length_range] at hr
          exact hr)
        have HLE : Hid (lE y (rowsAt (rows1 (L.allH y))) y.hands.toNat = 0) := hid (by have := L.allH_listE OKY.out; rwa [L.allH_len] at this)
        have hn12 : y.hands.toNat ≤ 12 := by omega
        have EW := hid T4.out.e
        cases hc : R.clashes y with
        | none =>
          have hfi1 : fi = -1 := hfi.out.trans (firstI_no (L.clashK_none hc))
          subst hfi1
          have HC := hid hc
          have HE : Hid ((P.left y (P.set (natL (rowsAt (rows1 (L.allH y))) y.hands.toNat))).isEmpty = true) := hid (by have := L.allH_left OKY.out hc; rwa [L.allH_len] at this)
          have HCS := hid (show (R.clashes y).isSome = false by rw [hc]; rfl)
          clear hc
          go_wp2_with (first
            | (go_at_call 50; refine (clashesX_none T4.out.iw h1 h2 h3 (chk_of OKY.out) HC.out).mono ?_; rintro e w5 ⟨rfl, he5⟩; have T5 := hid (T4.out.ext he5); have R5 := hid (R4.out.ext he5); have k7 := T5.out.b7.cell; have k7l := T5.out.b7.lt; have b12 := H4.out.b.ext he5; have k12 := b12.cell; have k12l := b12.lt)
            | (go_at_call 78; refine (explains_ok (T5.out.iw.ext ((Ext.refl _).alloc _)) h1 h2 h3 (R5.out.ext ((Ext.refl _).alloc _)) hn12 HLE.out HCS.out).mono ?_; rintro e w6 ⟨rfl, he6⟩; rw [HE.out])
            | (go_at_call 18; refine (awake_any _).mono ?_; rintro e w7 ⟨rfl, he7⟩))
          go_ret
          obtain ⟨e6, -⟩ := he6.newB
          exact ⟨rfl, EW.out.trans (he5.trans (e6.trans he7))⟩
        | some st =>
          obtain ⟨j, hj, hjs, hjk, hjf⟩ := L.clashK_some hc
          have hfi1 : fi = (j : Int) := hfi.out.trans (firstI_yes hj hjf hjk)
          subst hfi1
          obtain ⟨a, b⟩ := st
          have HC := hid hc
          have HJ := hid hjs
          have HTO : Hid (P.toldE y false = 7) := hid (by unfold P.toldE; rw [if_neg (fun h => h (chk_of OKY.out)), if_neg (by simp), hc]; rfl)
          have HCS := hid (show (R.clashes y).isSome = true by rw [hc]; rfl)
          have HBC : Hid (badC y 0 = false) := hid (by simp [badC, inB]; omega)
          have hji : (j : Int) < ((stretches y.cn).length : Int) := by omega
          clear hc hjs hjk hjf hfi
          go_upto_region 18 with (go_at_call 50; refine (clashesX_ok T4.out.iw h1 h2 h3 (chk_of OKY.out) HC.out).mono ?_; rintro e w5 ⟨rfl, he5⟩; have T5 := hid (T4.out.ext he5); have R5 := hid (R4.out.ext he5); have H5 := hid (H4.out.ext he5); have k7 := T5.out.b7.cell; have k7l := T5.out.b7.lt)
          refine wp_later fun w6 hw6 => ?_
          obtain ⟨e6, b15⟩ := hw6.newB
          have T6 := hid (T5.out.ext e6)
          have H6 := hid (H5.out.ext e6)
          have R6 := hid (R5.out.ext e6)
          obtain ⟨g15, hg15⟩ : ∃ g, g = w5.heap.size := ⟨_, rfl⟩
          rw [← hg15] at b15 ⊢
          clear k7 k7l hw6 hg15
          have k7 := T6.out.b7.cell
          have k7l := T6.out.b7.lt
          have k15 := b15.cell
          have k15l := b15.lt
          refine wp_region_mono 10 [(5, StrS y.cn), (8, PairS a b)] (by kernel_rfl) (by kernel_rfl) (by kernel_rfl) ?hS ?_
          case hS =>
            simp only [List.forall_mem_cons]
            exact ⟨fun _ _ _ _ _ e h => SlR.ext h e, fun _ _ _ _ _ _ h => h, fun _ h => by simp at h⟩
          simp only [List.take_succ_cons, List.take_zero, List.drop_succ_cons, List.drop_zero]
          iterate 5
            refine wpM_plain rfl ?_
            go_big_quiet_step (fail)
            refine wpQuiet_nil ?_
          refine wpM_spec _ rfl rfl (fun w2 hw2 _ => ?_) (fun va la ha ga1 ga2 _ hva => ?_)
          · go_wp2_with (go_at_call 73; refine (all73 (T6.out.iw.ext hw2) hcy.2).mono ?_; rintro e w' ⟨u, rfl, he, hu⟩)
            exact ⟨_, _, _, rfl, he, Nat.le_refl _, he.size, Nat.le_refl _, hu.slR⟩
          simp only [Act.put, List.setIfInBounds_toArray, List.set_cons_succ, List.set_cons_zero]
          obtain ⟨_, As, cs, rfl, hAs⟩ := hva
          rw [rows2_length] at hAs ⊢
          obtain ⟨bs, os, rfl, -⟩ := hAs (by omega)
          iterate 2
            refine wpM_plain rfl ?_
            go_big_quiet_step (fail)
            refine wpQuiet_nil ?_
          refine wpM_spec _ rfl rfl (fun w2 hw2 hF => ?_) (fun vb lb hb' gb1 gb2 _ hvb => ?_)
          · obtain ⟨-, A', c', e, hr⟩ := hF _ (.head _) (by kernel_rfl)
            simp only [Value.slice.injEq] at e
            obtain ⟨rfl, -, -⟩ := e
            rw [rows2_length] at hr
            obtain ⟨_, _, e, hbs, q0, q1⟩ := hr.at2 hj
            simp only [Option.some.injEq, Addr.mk.injEq] at e
            obtain ⟨rfl, rfl, -⟩ := e
            rw [rows2_at0 _ hj, HJ.out] at q0
            rw [rows2_at1 _ hj, HJ.out] at q1
            go_wp2
            exact ⟨_, w2.heap.size, w2.heap.size, rfl, Ext.refl _, Nat.le_refl _, Nat.le_refl _, Nat.le_refl _, rfl⟩
          simp only [Act.put, List.setIfInBounds_toArray, List.set_cons_succ, List.set_cons_zero]
          obtain ⟨_, rfl⟩ := hvb
          refine wpM_plain rfl ?_
          go_big_quiet_step (fail)
          refine wpQuiet_nil ?_
          refine wpM_nil fun w7 hw7 hF => ?_
          clear hF
          have T7 := hid (T6.out.ext hw7)
          have H7 := hid (H6.out.ext hw7)
          have R7 := hid (R6.out.ext hw7)
          replace k7 := T7.out.b7.cell
          replace k7l := T7.out.b7.lt
          clear k15 k15l b15
          have TN : Hid (P.toldE y false ≠ 0) := hid (by rw [HTO.out]; decide)
          have WN : Hid (P.toldE y (badC y 0) ≠ 0) := hid (by rw [HBC.out, HTO.out]; decide)
          go_upto_region 21 with (go_at_call 35; refine (fewest_err T7.out.iw h1 h2 h3 TN.out).mono ?_; rintro e w8 ⟨rfl, he8⟩; rw [HTO.out]; have T8 := hid (T7.out.ext he8); have H8 := hid (H7.out.ext he8); have R8 := hid (R7.out.ext he8); have k7 := T8.out.b7.cell; have k7l := T8.out.b7.lt; have k12 := H8.out.b.cell; have k12l := H8.out.b.lt)
          go_upto_region 22 with (go_at_call 78; refine (explains_clash T8.out.iw h1 h2 h3 R8.out hn12 HLE.out HCS.out).mono ?_; rintro e w9 ⟨rfl, he9⟩; have T9 := hid (T8.out.ext he9); have k7 := T9.out.b7.cell; have k7l := T9.out.b7.lt)
          go_upto_region 23 with (go_at_call 36; refine (must_err T9.out.iw h1 h2 h3 TN.out).mono ?_; rintro e w10 ⟨rfl, he10⟩; rw [HTO.out]; have T10 := hid (T9.out.ext he10); have k7 := T10.out.b7.cell; have k7l := T10.out.b7.lt)
          go_upto_region 24 with (go_at_call 27; refine (missing_err T10.out.iw h1 h2 h3 TN.out).mono ?_; rintro e w11 ⟨rfl, he11⟩; rw [HTO.out]; have T11 := hid (T10.out.ext he11); have k7 := T11.out.b7.cell; have k7l := T11.out.b7.lt)
          go_wp2_with (first
            | (go_at_call 51; refine (within_err T11.out.iw h1 h2 h3 0 WN.out).mono ?_; rintro e w12 ⟨rfl, he12⟩; rw [HBC.out, HTO.out])
            | (go_at_call 18; refine (awake_any _).mono ?_; rintro e w13 ⟨rfl, he13⟩))
          go_ret
          obtain ⟨e13, -⟩ := he13.newB
          exact ⟨rfl, T11.out.e.trans (he12.trans e13)⟩
  case first =>
    have hx1 := HX.out.hours
    have hx2 := HX.out.hands
    cases ht : ((bym : Int) % 2 == 0)
    · obtain ⟨qd, hqd⟩ : ∃ m, m = wh % x.hands.toNat := ⟨_, rfl⟩
      have H89 : ∀ (W : World) (S : Nat → Prop), Ch S w1 W → ¬ S g4 → ¬ S g7 → ∀ k, k < x.sn → Calls Tryz.prog 89 (#[enc3 x.s k] ++ #[.pointer (some ⟨g4, 0, none⟩), .pointer (some ⟨g7, 0, none⟩)]) W fun e w'' => e = .returned (.bool (!(!decide (x.s k 0 = (qd : Int))))) ∧ Ext W w'' := fun W S c n4 n7 k _ => by
        rw [Bool.not_not, hqd]
        exact run89 hwh hx2 (c.blk B4.out n4) (c.blk B7.out n7) _ _ _
      have D := del88 (q := fun k => !decide (x.s k 0 = (qd : Int))) EW.out (Nat.le_refl _) (by have := HX.out.sn; omega) O5.out (fv := .func (.func 89) #[] #[.pointer (some ⟨g4, 0, none⟩), .pointer (some ⟨g7, 0, none⟩)])
        (fun g hg => ⟨_, _, rfl, enters_ Tryz.func89 (by kernel_rfl) rfl, fun k hk W c => H89 W _ c (fun e => O5.out.ne_blk B4.out (by decide) (by rw [hg, e])) (fun e => O5.out.ne_blk B7.out (by decide) (by rw [hg, e])) k hk⟩)
        ⟨_, _, rfl, enters_ Tryz.func89 (by kernel_rfl) rfl, fun k hk W e => H89 W _ (Ch.ofExt e) (fun h => h) (fun h => h) k hk⟩
      have DD := hid D
      clear D H89 a3 hqd
      go_wp2_with (go_at_call 88; refine DD.out.mono ?_; rintro e w2 ⟨rfl, he2, hc2, hr2⟩; have k7 := (hc2.blk B7.out (O5.out.ne_blk B7.out (by decide))).cell; have k7l := (hc2.blk B7.out (O5.out.ne_blk B7.out (by decide))).lt; have f7 := (hc2.blk B7.out (O5.out.ne_blk B7.out (by decide))).frozen)
      go_meet
      exact ⟨_, _, _, _, _, _, _, rfl, hid (cl_del he2 hg7w HX.out O3.out O4.out O5.out B7.out hc2 hr2)⟩
    · obtain ⟨m6, hm6⟩ : ∃ m, m = bym % 60 := ⟨_, rfl⟩
      have hm6l : m6 < 60 := by omega
      have hmod6 : Int.tmod (bym : Int) 60 = (m6 : Int) := by rw [hm6]; rfl
      have hkx : k < x.cn := by omega
      have e1 := a3.cell (i := k * 3 + 1) (by omega)
      have e2 := a3.cell (i := k * 3 + 2) (by omega)
      have f1 := a3.frozen (i := k * 3 + 1) (by omega)
      have f2 := a3.frozen (i := k * 3 + 2) (by omega)
      have hb := a3.1
      rw [show (k * 3 + 1) / 3 = k by omega, show (k * 3 + 1) % 3 = 1 by omega] at e1
      rw [show (k * 3 + 2) / 3 = k by omega, show (k * 3 + 2) % 3 = 2 by omega] at e2
      have hlo := HX.out.lo k hkx
      clear hm6 a3
      go_wp2_with fail
      all_goals
        go_meet
        exact ⟨_, _, _, _, _, _, _, rfl, hid (cl_set hkx EW.out hg7w hb3 HX.out O3.out O4.out O5.out B7.out (by omega))⟩
end Go.Proofs.YtkhjmedfhobebaaGreat
