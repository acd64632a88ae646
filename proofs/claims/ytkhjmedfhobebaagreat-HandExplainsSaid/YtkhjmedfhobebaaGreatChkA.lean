/- Walks of the functions that the program's check asks each count, booking and spell. -/
import Derived.Test.YtkhjmedfhobebaaGreatGenC
namespace HandSpec
namespace P
def cOk (x : WD) (k : Nat) : Bool := inB (x.c k 0) 0 x.hours && inB (x.c k 1) 0 500 && inB (x.c k 2) 0 500
def bOk (x : WD) (k : Nat) : Bool := inB (x.b k 0) 0 x.hours && inB (x.b k 1) (-200) 200 && decide (x.b k 1 ≠ 0)
def sOk (x : WD) (k : Nat) : Bool := inB (x.s k 1) 0 x.hours && inB (x.s k 2) 0 x.hours
def hOk (x : WD) (k : Nat) : Bool := inB (x.s k 0) 0 (Go.RowKit.wrap64 (x.hands - 1))
def lhOk (x : WD) (k : Nat) : Bool := decide (x.c k 1 ≤ x.c k 2)
def ftOk (x : WD) (k : Nat) : Bool := decide (x.s k 1 < x.s k 2)
end P
end HandSpec
namespace Go.Proofs.YtkhjmedfhobebaaGreat
open Go.RowKit HandSpec
set_option maxHeartbeats 400000
set_option maxRecDepth 100000

/-- The box of a watch. -/
def BoxW (w : World) (tb : Nat) (x : WD) : Prop :=
  ∃ A1 c1 A2 c2 A3 c3, Blk w tb 26 #[.int .i64 x.hours, .int .i64 x.allow, .int .i64 x.hands, .slice A1 x.cn c1, .slice A2 x.bn c2, .slice A3 x.sn c3] ∧
    Rd w A1 x.cn 3 x.c ∧ Rd w A2 x.bn 2 x.b ∧ Rd w A3 x.sn 3 x.s
theorem BoxW.ext {w w' : World} {tb : Nat} {x : WD} (h : BoxW w tb x) (e : Ext w w') : BoxW w' tb x := by
  obtain ⟨A1, c1, A2, c2, A3, c3, hv, h1, h2, h3⟩ := h
  exact ⟨A1, c1, A2, c2, A3, c3, hv.ext e, h1.ext e, h2.ext e, h3.ext e⟩

set_option maxHeartbeats 2000000 in
theorem check1 {x : WD} {w : World} {tb : Nat} (hb : BoxW w tb x) (a b c : Int) :
    Calls Tryz.prog 152 #[.agg #[.int .i64 a, .int .i64 b, .int .i64 c], .pointer (some ⟨tb, 0, none⟩)] w fun e w' => e = .returned (.bool (inB a 0 x.hours && inB b 0 500 && inB c 0 500)) ∧ Ext w w' := by
  obtain ⟨A1, c1, A2, c2, A3, c3, hb, r1, r2, r3⟩ := hb
  have hlt := hb.lt
  have q0 := hb.cell
  have HW : ∀ w', Ext w w' → IsW w' (.agg #[.int .i64 x.hours, .int .i64 x.allow, .int .i64 x.hands, .slice A1 x.cn c1, .slice A2 x.bn c2, .slice A3 x.sn c3]) x :=
    fun w' e => ⟨_, _, _, _, _, _, rfl, r1.ext e, r2.ext e, r3.ext e⟩
  have HW := hid HW
  clear r1 r2 r3 hb
  cases h1 : inB a 0 x.hours <;> cases h2 : inB b 0 500 <;> cases h3 : inB c 0 500
  all_goals
    have H1 := hid h1; clear h1
    have H2 := hid h2; clear h2
    have H3 := hid h3; clear h3
    go_enter Tryz.func152, Tryz.ntmps152
    go_wp2_with (first
      | (go_at_call 153; refine (hour_any (HW.out _ ((Ext.refl _).alloc _)) _).mono ?_; rintro e w1 ⟨rfl, he⟩; have k1 := ((Blk.new w 79 #[.int .i64 a, .int .i64 b, .int .i64 c]).ext he).cell; rw [H1.out])
      | (go_at_call 150; refine (in_any _ _ _ _).mono ?_; rintro e w' ⟨rfl, rfl⟩; first | rw [H2.out] | rw [H3.out]))
    go_ret
    exact ⟨rfl, ((Ext.refl _).alloc _).trans he⟩

set_option maxHeartbeats 2000000 in
theorem check2 {x : WD} {w : World} {tb : Nat} (hb : BoxW w tb x) (a b : Int) :
    Calls Tryz.prog 155 #[.agg #[.int .i64 a, .int .i64 b], .pointer (some ⟨tb, 0, none⟩)] w fun e w' => e = .returned (.bool (inB a 0 x.hours && inB b (-200) 200 && decide (b ≠ 0))) ∧ Ext w w' := by
  obtain ⟨A1, c1, A2, c2, A3, c3, hb, r1, r2, r3⟩ := hb
  have hlt := hb.lt
  have q0 := hb.cell
  have HW : ∀ w', Ext w w' → IsW w' (.agg #[.int .i64 x.hours, .int .i64 x.allow, .int .i64 x.hands, .slice A1 x.cn c1, .slice A2 x.bn c2, .slice A3 x.sn c3]) x :=
    fun w' e => ⟨_, _, _, _, _, _, rfl, r1.ext e, r2.ext e, r3.ext e⟩
  have HW := hid HW
  clear r1 r2 r3 hb
  cases h1 : inB a 0 x.hours <;> cases h2 : inB b (-200) 200
  all_goals
    have H1 := hid h1; clear h1
    have H2 := hid h2; clear h2
    go_enter Tryz.func155, Tryz.ntmps155
    go_wp2_with (first
      | (go_at_call 153; refine (hour_any (HW.out _ ((Ext.refl _).alloc _)) _).mono ?_; rintro e w1 ⟨rfl, he⟩; have k1 := ((Blk.new w 119 #[.int .i64 a, .int .i64 b]).ext he).cell; rw [H1.out])
      | (go_at_call 150; refine (in_any _ _ _ _).mono ?_; rintro e w' ⟨rfl, rfl⟩; rw [H2.out]))
    go_ret
    exact ⟨ret_bool (by simp [bne, Bool.beq_eq_decide_eq]), ((Ext.refl _).alloc _).trans he⟩
set_option maxHeartbeats 2000000 in
theorem check3 {x : WD} {w : World} {tb : Nat} (hb : BoxW w tb x) (a b c : Int) :
    Calls Tryz.prog 157 #[.agg #[.int .i64 a, .int .i64 b, .int .i64 c], .pointer (some ⟨tb, 0, none⟩)] w fun e w' => e = .returned (.bool (inB b 0 x.hours && inB c 0 x.hours)) ∧ Ext w w' := by
  obtain ⟨A1, c1, A2, c2, A3, c3, hb, r1, r2, r3⟩ := hb
  have hlt := hb.lt
  have q0 := hb.cell
  have HW : ∀ w', Ext w w' → IsW w' (.agg #[.int .i64 x.hours, .int .i64 x.allow, .int .i64 x.hands, .slice A1 x.cn c1, .slice A2 x.bn c2, .slice A3 x.sn c3]) x :=
    fun w' e => ⟨_, _, _, _, _, _, rfl, r1.ext e, r2.ext e, r3.ext e⟩
  have HW := hid HW
  have HB := hid hb
  clear r1 r2 r3 hb
  cases h1 : inB b 0 x.hours
  · have H1 := hid h1; clear h1
    go_enter Tryz.func157, Tryz.ntmps157
    go_wp2_with (go_at_call 153; refine (hour_any (HW.out _ ((Ext.refl _).alloc _)) b).mono ?_; rintro e w1 ⟨rfl, he⟩; rw [H1.out])
    go_ret
    exact ⟨rfl, ((Ext.refl _).alloc _).trans he⟩
  · have H1 := hid h1; clear h1
    go_enter Tryz.func157, Tryz.ntmps157
    go_wp2_with (first
      | (go_at_call 153; refine (hour_any (by with_reducible exact HW.out _ ((Ext.refl _).alloc _)) _).mono ?_; rintro e w1 ⟨rfl, he⟩; rw [H1.out]; have k1 := ((Blk.new w 114 #[.int .i64 a, .int .i64 b, .int .i64 c]).ext he).cell; have k2 := (HB.out.ext (((Ext.refl _).alloc _).trans he)).cell)
      | (go_at_call 153; refine (hour_any (by with_reducible exact HW.out _ (((Ext.refl _).alloc _).trans he)) _).mono ?_; rintro e w2 ⟨rfl, he2⟩))
    go_ret
    exact ⟨rfl, (((Ext.refl _).alloc _).trans he).trans he2⟩
theorem check4 {x : WD} {w : World} {b3 : Nat} {t : TypeId} {v : Value} (hv : IsW w v x) (hb : Blk w b3 t #[.func (.func 121) #[v] #[]]) (a b c : Int) :
    Calls Tryz.prog 158 #[.agg #[.int .i64 a, .int .i64 b, .int .i64 c], .pointer (some ⟨b3, 0, none⟩)] w fun e w' => e = .returned (.bool (inB a 0 (Go.RowKit.wrap64 (x.hands - 1)))) ∧ Ext w w' := by
  have hlt := hb.lt
  have q0 := hb.cell
  have hcf := enters_ Tryz.func121 (by kernel_rfl) rfl
  clear hb
  have HV := hid hv; clear hv
  go_enter Tryz.func158, Tryz.ntmps158
  go_wp2_with (refine (hand_any (HV.out.ext ((Ext.refl _).alloc _)) _).mono ?_; rintro e w1 ⟨rfl, he⟩)
  go_ret
  exact ⟨rfl, ((Ext.refl _).alloc _).trans he⟩
theorem check7 (w : World) (a b c : Int) :
    Calls Tryz.prog 163 #[.agg #[.int .i64 a, .int .i64 b, .int .i64 c]] w fun e w' => e = .returned (.bool (decide (b ≤ c))) ∧ Ext w w' := by
  go_enter Tryz.func163, Tryz.ntmps163
  go_wp2
  go_ret
  exact ⟨rfl, ((Ext.refl _).alloc _)⟩
theorem check8 (w : World) (a b c : Int) :
    Calls Tryz.prog 164 #[.agg #[.int .i64 a, .int .i64 b, .int .i64 c]] w fun e w' => e = .returned (.bool (decide (b < c))) ∧ Ext w w' := by
  go_enter Tryz.func164, Tryz.ntmps164
  go_wp2
  go_ret
  exact ⟨rfl, ((Ext.refl _).alloc _)⟩
theorem asks1 {x : WD} {w : World} {tb : Nat} (hb : BoxW w tb x) : Asks w (.func (.func 152) #[] #[.pointer (some ⟨tb, 0, none⟩)]) x.cn (enc3 x.c) (P.cOk x) :=
  ⟨_, _, rfl, enters_ Tryz.func152 (by kernel_rfl) rfl, fun k _ w' e => check1 (hb.ext e) _ _ _⟩
theorem asks2 {x : WD} {w : World} {tb : Nat} (hb : BoxW w tb x) : Asks w (.func (.func 155) #[] #[.pointer (some ⟨tb, 0, none⟩)]) x.bn (enc2 x.b) (P.bOk x) :=
  ⟨_, _, rfl, enters_ Tryz.func155 (by kernel_rfl) rfl, fun k _ w' e => check2 (hb.ext e) _ _⟩
theorem asks3 {x : WD} {w : World} {tb : Nat} (hb : BoxW w tb x) : Asks w (.func (.func 157) #[] #[.pointer (some ⟨tb, 0, none⟩)]) x.sn (enc3 x.s) (P.sOk x) :=
  ⟨_, _, rfl, enters_ Tryz.func157 (by kernel_rfl) rfl, fun k _ w' e => check3 (hb.ext e) _ _ _⟩
theorem asks4 {x : WD} {w : World} {b3 : Nat} {t : TypeId} {v : Value} (hv : IsW w v x) (hb : Blk w b3 t #[.func (.func 121) #[v] #[]]) : Asks w (.func (.func 158) #[] #[.pointer (some ⟨b3, 0, none⟩)]) x.sn (enc3 x.s) (P.hOk x) :=
  ⟨_, _, rfl, enters_ Tryz.func158 (by kernel_rfl) rfl, fun k _ w' e => check4 (hv.ext e) (hb.ext e) _ _ _⟩
theorem asks7 (x : WD) (w : World) : Asks w (.func (.func 163) #[] #[]) x.cn (enc3 x.c) (P.lhOk x) :=
  ⟨_, _, rfl, enters_ Tryz.func163 (by kernel_rfl) rfl, fun k _ w' _ => check7 w' _ _ _⟩
theorem asks8 (x : WD) (w : World) : Asks w (.func (.func 164) #[] #[]) x.sn (enc3 x.s) (P.ftOk x) :=
  ⟨_, _, rfl, enters_ Tryz.func164 (by kernel_rfl) rfl, fun k _ w' _ => check8 w' _ _ _⟩
theorem cmp5 (w : World) (a b c a' b' c' : Int) (h : -4611686018427387904 ≤ a - a' ∧ a - a' ≤ 4611686018427387904) :
    Calls Tryz.prog 160 #[.agg #[.int .i64 a, .int .i64 b, .int .i64 c], .agg #[.int .i64 a', .int .i64 b', .int .i64 c']] w fun e w' => e = .returned (.int .i64 (a - a')) ∧ Ext w w' := by
  go_enter Tryz.func160, Tryz.ntmps160
  go_wp2
  go_ret
  exact ⟨ret_int (by go_num), ((Ext.refl _).alloc _).alloc _⟩
theorem eq6 (w : World) (a b c a' b' c' : Int) :
    Calls Tryz.prog 162 #[.agg #[.int .i64 a, .int .i64 b, .int .i64 c], .agg #[.int .i64 a', .int .i64 b', .int .i64 c']] w fun e w' => e = .returned (.bool (a == a')) ∧ Ext w w' := by
  go_enter Tryz.func162, Tryz.ntmps162
  go_wp2
  go_ret
  exact ⟨rfl, ((Ext.refl _).alloc _).alloc _⟩
end Go.Proofs.YtkhjmedfhobebaaGreat
