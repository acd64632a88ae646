/- Walks of instances of library functions that ask a list by a function, and of the program's own every. The function only makes new memory. -/
import Derived.Test.YtbceepjjdfpfmaaGreatWords
namespace Go.Proofs.YtbceepjjdfpfmaaGreat
open Go.RowKit HandSpec
set_option maxHeartbeats 400000
set_option maxRecDepth 100000

/-- The first place below n at which p holds, or -1. -/
def firstI (p : Nat → Bool) (n : Nat) : Int := ((List.range n).findIdx? p).elim (-1) (fun i => (i : Int))
theorem firstI_no {p : Nat → Bool} {n : Nat} (h : ∀ j, j < n → p j = false) : firstI p n = -1 := by
 unfold firstI
 rw [List.findIdx?_eq_none_iff.2]
 ·rfl
 ·intro x hx; simp at hx; simp [h x hx]
theorem firstI_yes {p : Nat → Bool} {n k : Nat} (hk : k < n) (h : ∀ j, j < k → p j = false) (hp : p k = true) : firstI p n = k := by
 unfold firstI
 have : (List.range n).findIdx? p = some k := by
  rw [List.findIdx?_eq_some_iff_getElem]
  refine ⟨by simpa using hk, by simpa using hp, fun j hj => by simpa using h j hj⟩
 rw [this]; rfl
theorem firstI_any (p : Nat → Bool) (n : Nat) : decide (0 ≤ firstI p n) = anyTo p n := by
 cases h : anyTo p n
 ·rw [firstI_no (anyTo_false.1 h)]; rfl
 ·obtain ⟨k, hk, hp⟩ := anyTo_true.1 h
  unfold firstI
  cases hf : (List.range n).findIdx? p with
  | some i => simp
  | none =>
   rw [List.findIdx?_eq_none_iff] at hf
   have := hf k (by simpa using hk)
   rw [hp] at this; cases this
/-- A function value that asks element k, and only makes new memory. -/
def Asks (w : World) (fv : Value) (n : Nat) (enc : Nat → Value) (p : Nat → Bool) : Prop :=
 ∃ f caps, fv = .func (.func f) #[] caps ∧ (∀ args w, (callFunc f args).run Tryz.prog w = .ok (.enter f args) w) ∧
  ∀ k, k < n → ∀ w', Ext w w' → Calls Tryz.prog f (#[enc k] ++ caps) w' (fun e w'' => e = .returned (.bool (p k)) ∧ Ext w' w'')
theorem Asks.ext {w w' : World} {fv : Value} {n : Nat} {enc : Nat → Value} {p : Nat → Bool} (h : Asks w fv n enc p) (e : Ext w w') : Asks w' fv n enc p := by
 obtain ⟨f, caps, h1, h2, h3⟩ := h
 exact ⟨f, caps, h1, h2, fun k hk w'' e' => h3 k hk w'' (e.trans e')⟩
def enc1 (g : Nat → Nat → Int) (k : Nat) : Value := .int .i64 (g k 0)
def enc2 (g : Nat → Nat → Int) (k : Nat) : Value := .agg #[.int .i64 (g k 0), .int .i64 (g k 1)]
def enc3 (g : Nat → Nat → Int) (k : Nat) : Value := .agg #[.int .i64 (g k 0), .int .i64 (g k 1), .int .i64 (g k 2)]

theorem indexFunc191 {w : World} {A : Option Addr} {n cap : Nat} {g : Nat → Nat → Int} (hr : Rd w A n 3 g) {fv : Value} {p : Nat → Bool} (hn : n ≤ 1000) (ha : Asks w fv n (enc3 g) p) :
  Calls Tryz.prog 191 #[.slice A n cap, fv] w (fun e w' => e = .returned (.int .i64 (firstI p n)) ∧ Ext w w') := by
 obtain ⟨fn, caps, rfl, hfn, hf⟩ := ha
 unfold enc3 at hf
 have HF := hid hf; clear hf
 go_enter Tryz.func191, Tryz.ntmps191
 go_wp2
 go_loopw [4, 5, 8] (fun r _ i wr => ∃ k : Nat, k ≤ n ∧ i = .int .i64 k ∧ r = .int .i64 0 ∧ Hid (∀ j, j < k → p j = false) ∧ Ext w wr) (fun _ _ i _ => n - (intOf i).toNat)
 case atStart => exact ⟨0, Nat.zero_le _, rfl, rfl, fun _ h => absurd h (by omega), Ext.refl _⟩
 case round =>
  obtain ⟨k, hk, rfl, rfl, hp, he⟩ := hrel
  by_cases hlt : k < n
  ·obtain ⟨b, o, rfl, hb, h0, h1, h2⟩ := (hr.ext he).at3 hlt
   cases hb : p k
   all_goals
    have HB := hid hb; clear hb
    go_wp2_with (refine (HF.out k hlt _ he).mono ?_; rintro e w1 ⟨rfl, he1⟩; rw [HB.out])
   ·go_roundw
    case rel => exact ⟨k+1, by omega, by go_num, rfl, anyTo_step hp.out HB.out, he.trans he1⟩
    case measure => simp [intOf]; omega
   ·go_ret
    exact ⟨ret_int (firstI_yes hlt hp.out HB.out).symm, he.trans he1⟩
  ·go_wp2_with fail
   go_ret
   have : k = n := by omega
   subst this
   exact ⟨ret_int (firstI_no hp.out).symm, he⟩

theorem indexFunc68 {w : World} {A : Option Addr} {n cap : Nat} {g : Nat → Nat → Int} (hr : Rd w A n 1 g) {fv : Value} {p : Nat → Bool} (hn : n ≤ 1000) (ha : Asks w fv n (enc1 g) p) :
  Calls Tryz.prog 68 #[.slice A n cap, fv] w (fun e w' => e = .returned (.int .i64 (firstI p n)) ∧ Ext w w') := by
 obtain ⟨fn, caps, rfl, hfn, hf⟩ := ha
 unfold enc1 at hf
 have HF := hid hf; clear hf
 go_enter Tryz.func68, Tryz.ntmps68
 go_wp2
 go_loopw [4, 5, 8] (fun r _ i wr => ∃ k : Nat, k ≤ n ∧ i = .int .i64 k ∧ r = .int .i64 0 ∧ Hid (∀ j, j < k → p j = false) ∧ Ext w wr) (fun _ _ i _ => n - (intOf i).toNat)
 case atStart => exact ⟨0, Nat.zero_le _, rfl, rfl, fun _ h => absurd h (by omega), Ext.refl _⟩
 case round =>
  obtain ⟨k, hk, rfl, rfl, hp, he⟩ := hrel
  by_cases hlt : k < n
  ·obtain ⟨b, o, rfl, hb, h0⟩ := (hr.ext he).at1 hlt
   cases hb : p k
   all_goals
    have HB := hid hb; clear hb
    go_wp2_with (refine (HF.out k hlt _ he).mono ?_; rintro e w1 ⟨rfl, he1⟩; rw [HB.out])
   ·go_roundw
    case rel => exact ⟨k+1, by omega, by go_num, rfl, anyTo_step hp.out HB.out, he.trans he1⟩
    case measure => simp [intOf]; omega
   ·go_ret
    exact ⟨ret_int (firstI_yes hlt hp.out HB.out).symm, he.trans he1⟩
  ·go_wp2_with fail
   go_ret
   have : k = n := by omega
   subst this
   exact ⟨ret_int (firstI_no hp.out).symm, he⟩

theorem indexFunc192 {w : World} {A : Option Addr} {n cap : Nat} {g : Nat → Nat → Int} (hr : Rd w A n 3 g) {fv : Value} {p : Nat → Bool} (hn : n ≤ 1000) (ha : Asks w fv n (enc3 g) p) :
  Calls Tryz.prog 192 #[.slice A n cap, fv] w (fun e w' => e = .returned (.int .i64 (firstI p n)) ∧ Ext w w') := by
 obtain ⟨fn, caps, rfl, hfn, hf⟩ := ha
 unfold enc3 at hf
 have HF := hid hf; clear hf
 go_enter Tryz.func192, Tryz.ntmps192
 go_wp2
 go_loopw [4, 5, 8] (fun r _ i wr => ∃ k : Nat, k ≤ n ∧ i = .int .i64 k ∧ r = .int .i64 0 ∧ Hid (∀ j, j < k → p j = false) ∧ Ext w wr) (fun _ _ i _ => n - (intOf i).toNat)
 case atStart => exact ⟨0, Nat.zero_le _, rfl, rfl, fun _ h => absurd h (by omega), Ext.refl _⟩
 case round =>
  obtain ⟨k, hk, rfl, rfl, hp, he⟩ := hrel
  by_cases hlt : k < n
  ·obtain ⟨b, o, rfl, hb, h0, h1, h2⟩ := (hr.ext he).at3 hlt
   cases hb : p k
   all_goals
    have HB := hid hb; clear hb
    go_wp2_with (refine (HF.out k hlt _ he).mono ?_; rintro e w1 ⟨rfl, he1⟩; rw [HB.out])
   ·go_roundw
    case rel => exact ⟨k+1, by omega, by go_num, rfl, anyTo_step hp.out HB.out, he.trans he1⟩
    case measure => simp [intOf]; omega
   ·go_ret
    exact ⟨ret_int (firstI_yes hlt hp.out HB.out).symm, he.trans he1⟩
  ·go_wp2_with fail
   go_ret
   have : k = n := by omega
   subst this
   exact ⟨ret_int (firstI_no hp.out).symm, he⟩

theorem containsFunc85 {w : World} {A : Option Addr} {n cap : Nat} {g : Nat → Nat → Int} (hr : Rd w A n 1 g) {fv : Value} {p : Nat → Bool} (hn : n ≤ 1000) (ha : Asks w fv n (enc1 g) p) :
  Calls Tryz.prog 85 #[.slice A n cap, fv] w (fun e w' => e = .returned (.bool (anyTo p n)) ∧ Ext w w') := by
 have hf := firstI_any p n
 have HF := hid hf; clear hf
 have HA := hid ha
 go_enter Tryz.func85, Tryz.ntmps85
 go_wp2_with (go_at_call 68; refine (indexFunc68 hr hn HA.out).mono ?_; rintro e w1 ⟨rfl, he1⟩)
 go_ret
 exact ⟨ret_bool HF.out, he1⟩

theorem containsFunc168 {w : World} {A : Option Addr} {n cap : Nat} {g : Nat → Nat → Int} (hr : Rd w A n 3 g) {fv : Value} {p : Nat → Bool} (hn : n ≤ 1000) (ha : Asks w fv n (enc3 g) p) :
  Calls Tryz.prog 168 #[.slice A n cap, fv] w (fun e w' => e = .returned (.bool (anyTo p n)) ∧ Ext w w') := by
 have hf := firstI_any p n
 have HF := hid hf; clear hf
 have HA := hid ha
 go_enter Tryz.func168, Tryz.ntmps168
 go_wp2_with (go_at_call 191; refine (indexFunc191 hr hn HA.out).mono ?_; rintro e w1 ⟨rfl, he1⟩)
 go_ret
 exact ⟨ret_bool HF.out, he1⟩

theorem containsFunc170 {w : World} {A : Option Addr} {n cap : Nat} {g : Nat → Nat → Int} (hr : Rd w A n 3 g) {fv : Value} {p : Nat → Bool} (hn : n ≤ 1000) (ha : Asks w fv n (enc3 g) p) :
  Calls Tryz.prog 170 #[.slice A n cap, fv] w (fun e w' => e = .returned (.bool (anyTo p n)) ∧ Ext w w') := by
 have hf := firstI_any p n
 have HF := hid hf; clear hf
 have HA := hid ha
 go_enter Tryz.func170, Tryz.ntmps170
 go_wp2_with (go_at_call 192; refine (indexFunc192 hr hn HA.out).mono ?_; rintro e w1 ⟨rfl, he1⟩)
 go_ret
 exact ⟨ret_bool HF.out, he1⟩

theorem every1_169 {w : World} {n : Nat} {g : Nat → Nat → Int} {fv : Value} {p : Nat → Bool} (ha : Asks w fv n (enc3 g) p) {b : Nat} {t : TypeId} (hb : Blk w b t #[fv]) :
  Asks w (.func (.func 169) #[] #[.pointer (some ⟨b, 0, none⟩)]) n (enc3 g) (fun k => !p k) := by
 refine ⟨_, _, rfl, enters_ Tryz.func169 (by kernel_rfl) rfl, fun k hk w' he => ?_⟩
 obtain ⟨fn, caps, rfl, hfn, hf⟩ := ha
 have HF := hf k hk
 unfold enc3 at HF ⊢
 have HF := hid HF; clear hf
 have k0 := (hb.ext he).cell
 have hlt := (hb.ext he).lt
 go_enter Tryz.func169, Tryz.ntmps169
 go_wp2_with (refine (HF.out _ (he.trans ((Ext.refl _).alloc _))).mono ?_; rintro e w1 ⟨rfl, he1⟩)
 go_ret
 exact ⟨rfl, ((Ext.refl _).alloc _).trans he1⟩

theorem every119 {w : World} {A : Option Addr} {n cap : Nat} {g : Nat → Nat → Int} (hr : Rd w A n 3 g) {fv : Value} {p : Nat → Bool} (hn : n ≤ 1000) (ha : Asks w fv n (enc3 g) p) :
  Calls Tryz.prog 119 #[.slice A n cap, fv] w (fun e w' => e = .returned (.bool (!anyTo (fun k => !p k) n)) ∧ Ext w w') := by
 have hmf : ∀ (fn : Fn) (first cap : Array Value) (w : World), (Instr.makeFunc fn first cap).run Tryz.prog w = .ok (.func fn first cap) w := fun _ _ _ _ => rfl
 have HA := hid ha
 obtain ⟨fn, caps, rfl, -, -⟩ := ha
 have e0 : Ext w (w.alloc (.cells #[.func (.func fn) #[] caps] 164)) := (Ext.refl _).alloc _
 have h1 := every1_169 (HA.out.ext e0) (Blk.new w 164 #[.func (.func fn) #[] caps])
 have H1 := hid h1; clear h1
 go_enter Tryz.func119, Tryz.ntmps119
 go_wp2_with (go_at_call 168; refine (containsFunc168 (hr.ext e0) hn H1.out).mono ?_; rintro e w1 ⟨rfl, he1⟩)
 go_ret
 exact ⟨rfl, e0.trans he1⟩

theorem every1_171 {w : World} {n : Nat} {g : Nat → Nat → Int} {fv : Value} {p : Nat → Bool} (ha : Asks w fv n (enc3 g) p) {b : Nat} {t : TypeId} (hb : Blk w b t #[fv]) :
  Asks w (.func (.func 171) #[] #[.pointer (some ⟨b, 0, none⟩)]) n (enc3 g) (fun k => !p k) := by
 refine ⟨_, _, rfl, enters_ Tryz.func171 (by kernel_rfl) rfl, fun k hk w' he => ?_⟩
 obtain ⟨fn, caps, rfl, hfn, hf⟩ := ha
 have HF := hf k hk
 unfold enc3 at HF ⊢
 have HF := hid HF; clear hf
 have k0 := (hb.ext he).cell
 have hlt := (hb.ext he).lt
 go_enter Tryz.func171, Tryz.ntmps171
 go_wp2_with (refine (HF.out _ (he.trans ((Ext.refl _).alloc _))).mono ?_; rintro e w1 ⟨rfl, he1⟩)
 go_ret
 exact ⟨rfl, ((Ext.refl _).alloc _).trans he1⟩

theorem every122 {w : World} {A : Option Addr} {n cap : Nat} {g : Nat → Nat → Int} (hr : Rd w A n 3 g) {fv : Value} {p : Nat → Bool} (hn : n ≤ 1000) (ha : Asks w fv n (enc3 g) p) :
  Calls Tryz.prog 122 #[.slice A n cap, fv] w (fun e w' => e = .returned (.bool (!anyTo (fun k => !p k) n)) ∧ Ext w w') := by
 have hmf : ∀ (fn : Fn) (first cap : Array Value) (w : World), (Instr.makeFunc fn first cap).run Tryz.prog w = .ok (.func fn first cap) w := fun _ _ _ _ => rfl
 have HA := hid ha
 obtain ⟨fn, caps, rfl, -, -⟩ := ha
 have e0 : Ext w (w.alloc (.cells #[.func (.func fn) #[] caps] 166)) := (Ext.refl _).alloc _
 have h1 := every1_171 (HA.out.ext e0) (Blk.new w 166 #[.func (.func fn) #[] caps])
 have H1 := hid h1; clear h1
 go_enter Tryz.func122, Tryz.ntmps122
 go_wp2_with (go_at_call 170; refine (containsFunc170 (hr.ext e0) hn H1.out).mono ?_; rintro e w1 ⟨rfl, he1⟩)
 go_ret
 exact ⟨rfl, e0.trans he1⟩

theorem every1_167 {w : World} {n : Nat} {g : Nat → Nat → Int} {fv : Value} {p : Nat → Bool} (ha : Asks w fv n (enc1 g) p) {b : Nat} {t : TypeId} (hb : Blk w b t #[fv]) :
  Asks w (.func (.func 167) #[] #[.pointer (some ⟨b, 0, none⟩)]) n (enc1 g) (fun k => !p k) := by
 refine ⟨_, _, rfl, enters_ Tryz.func167 (by kernel_rfl) rfl, fun k hk w' he => ?_⟩
 obtain ⟨fn, caps, rfl, hfn, hf⟩ := ha
 have HF := hf k hk
 unfold enc1 at HF ⊢
 have HF := hid HF; clear hf
 have k0 := (hb.ext he).cell
 have hlt := (hb.ext he).lt
 go_enter Tryz.func167, Tryz.ntmps167
 go_wp2_with (refine (HF.out _ he).mono ?_; rintro e w1 ⟨rfl, he1⟩)
 go_ret
 exact ⟨rfl, he1⟩

theorem every112 {w : World} {A : Option Addr} {n cap : Nat} {g : Nat → Nat → Int} (hr : Rd w A n 1 g) {fv : Value} {p : Nat → Bool} (hn : n ≤ 1000) (ha : Asks w fv n (enc1 g) p) :
  Calls Tryz.prog 112 #[.slice A n cap, fv] w (fun e w' => e = .returned (.bool (!anyTo (fun k => !p k) n)) ∧ Ext w w') := by
 have hmf : ∀ (fn : Fn) (first cap : Array Value) (w : World), (Instr.makeFunc fn first cap).run Tryz.prog w = .ok (.func fn first cap) w := fun _ _ _ _ => rfl
 have HA := hid ha
 obtain ⟨fn, caps, rfl, -, -⟩ := ha
 have e0 : Ext w (w.alloc (.cells #[.func (.func fn) #[] caps] 70)) := (Ext.refl _).alloc _
 have h1 := every1_167 (HA.out.ext e0) (Blk.new w 70 #[.func (.func fn) #[] caps])
 have H1 := hid h1; clear h1
 go_enter Tryz.func112, Tryz.ntmps112
 go_wp2_with (go_at_call 85; refine (containsFunc85 (hr.ext e0) hn H1.out).mono ?_; rintro e w1 ⟨rfl, he1⟩)
 go_ret
 exact ⟨rfl, e0.trans he1⟩

end Go.Proofs.YtbceepjjdfpfmaaGreat
namespace Go.Proofs.YtbceepjjdfpfmaaGreat
open Go.RowKit HandSpec
set_option maxHeartbeats 800000
set_option maxRecDepth 100000
theorem indexFunc193 {w : World} {A : Option Addr} {n cap : Nat} {g : Nat → Nat → Int} (hr : Rd w A n 3 g) {fv : Value} {p : Nat → Bool} (hn : n ≤ 1000) (ha : Asks w fv n (enc3 g) p) :
  Calls Tryz.prog 193 #[.slice A n cap, fv] w (fun e w' => e = .returned (.int .i64 (firstI p n)) ∧ Ext w w') := by
 obtain ⟨fn, caps, rfl, hfn, hf⟩ := ha
 unfold enc3 at hf
 have HF := hid hf; clear hf
 go_enter Tryz.func193, Tryz.ntmps193
 go_wp2
 go_loopw [4, 5, 8] (fun r _ i wr => ∃ k : Nat, k ≤ n ∧ i = .int .i64 k ∧ r = .int .i64 0 ∧ Hid (∀ j, j < k → p j = false) ∧ Ext w wr) (fun _ _ i _ => n - (intOf i).toNat)
 case atStart => exact ⟨0, Nat.zero_le _, rfl, rfl, fun _ h => absurd h (by omega), Ext.refl _⟩
 case round =>
  obtain ⟨k, hk, rfl, rfl, hp, he⟩ := hrel
  by_cases hlt : k < n
  ·obtain ⟨b, o, rfl, hb, h0, h1, h2⟩ := (hr.ext he).at3 hlt
   cases hb : p k
   all_goals
    have HB := hid hb; clear hb
    go_wp2_with (refine (HF.out k hlt _ he).mono ?_; rintro e w1 ⟨rfl, he1⟩; rw [HB.out])
   ·go_roundw
    case rel => exact ⟨k+1, by omega, by go_num, rfl, anyTo_step hp.out HB.out, he.trans he1⟩
    case measure => simp [intOf]; omega
   ·go_ret
    exact ⟨ret_int (firstI_yes hlt hp.out HB.out).symm, he.trans he1⟩
  ·go_wp2_with fail
   go_ret
   have : k = n := by omega
   subst this
   exact ⟨ret_int (firstI_no hp.out).symm, he⟩
theorem containsFunc172 {w : World} {A : Option Addr} {n cap : Nat} {g : Nat → Nat → Int} (hr : Rd w A n 3 g) {fv : Value} {p : Nat → Bool} (hn : n ≤ 1000) (ha : Asks w fv n (enc3 g) p) :
  Calls Tryz.prog 172 #[.slice A n cap, fv] w (fun e w' => e = .returned (.bool (anyTo p n)) ∧ Ext w w') := by
 have hf := firstI_any p n
 have HF := hid hf; clear hf
 have HA := hid ha
 go_enter Tryz.func172, Tryz.ntmps172
 go_wp2_with (go_at_call 193; refine (indexFunc193 hr hn HA.out).mono ?_; rintro e w1 ⟨rfl, he1⟩)
 go_ret
 exact ⟨ret_bool HF.out, he1⟩
theorem every1_173 {w : World} {n : Nat} {g : Nat → Nat → Int} {fv : Value} {p : Nat → Bool} (ha : Asks w fv n (enc3 g) p) {b : Nat} {t : TypeId} (hb : Blk w b t #[fv]) :
  Asks w (.func (.func 173) #[] #[.pointer (some ⟨b, 0, none⟩)]) n (enc3 g) (fun k => !p k) := by
 refine ⟨_, _, rfl, enters_ Tryz.func173 (by kernel_rfl) rfl, fun k hk w' he => ?_⟩
 obtain ⟨fn, caps, rfl, hfn, hf⟩ := ha
 have HF := hf k hk
 unfold enc3 at HF ⊢
 have HF := hid HF; clear hf
 have k0 := (hb.ext he).cell
 have hlt := (hb.ext he).lt
 go_enter Tryz.func173, Tryz.ntmps173
 go_wp2_with (refine (HF.out _ (he.trans ((Ext.refl _).alloc _))).mono ?_; rintro e w1 ⟨rfl, he1⟩)
 go_ret
 exact ⟨rfl, ((Ext.refl _).alloc _).trans he1⟩
theorem every124 {w : World} {A : Option Addr} {n cap : Nat} {g : Nat → Nat → Int} (hr : Rd w A n 3 g) {fv : Value} {p : Nat → Bool} (hn : n ≤ 1000) (ha : Asks w fv n (enc3 g) p) :
  Calls Tryz.prog 124 #[.slice A n cap, fv] w (fun e w' => e = .returned (.bool (!anyTo (fun k => !p k) n)) ∧ Ext w w') := by
 have hmf : ∀ (fn : Fn) (first cap : Array Value) (w : World), (Instr.makeFunc fn first cap).run Tryz.prog w = .ok (.func fn first cap) w := fun _ _ _ _ => rfl
 have HA := hid ha
 obtain ⟨fn, caps, rfl, -, -⟩ := ha
 have e0 : Ext w (w.alloc (.cells #[.func (.func fn) #[] caps] 168)) := (Ext.refl _).alloc _
 have h1 := every1_173 (HA.out.ext e0) (Blk.new w 168 #[.func (.func fn) #[] caps])
 have H1 := hid h1; clear h1
 go_enter Tryz.func124, Tryz.ntmps124
 go_wp2_with (go_at_call 172; refine (containsFunc172 (hr.ext e0) hn H1.out).mono ?_; rintro e w1 ⟨rfl, he1⟩)
 go_ret
 exact ⟨rfl, e0.trans he1⟩
end Go.Proofs.YtbceepjjdfpfmaaGreat
