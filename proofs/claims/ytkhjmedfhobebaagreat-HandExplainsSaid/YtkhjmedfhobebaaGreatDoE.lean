/- Walks of the program: the smallest short stretches, and those that some hands leave. The watch is right, as Ok says. -/
import Derived.Test.YtkhjmedfhobebaaGreatDoD
namespace HandSpec
namespace P
/-- Stretch y is another one, and lies within s. -/
def innerB (s y : Nat × Nat) : Bool := decide (y ≠ s) && decide (s.1 ≤ y.1) && decide (y.2 ≤ s.2)
def smQ (l : List (Nat × Nat)) (s : Nat × Nat) : Bool := !l.any (innerB s)
def smallest (x : WD) : List (Nat × Nat) := (R.short x).filter (smQ (R.short x))
def lfQ (x : WD) (m : Nat) (s : Nat × Nat) : Bool := !decide (th x s.1 s.2 &&& m ≠ 0)
def left (x : WD) (m : Nat) : List (Nat × Nat) := (smallest x).filter (lfQ x m)
end P
end HandSpec
namespace Go.Proofs.YtkhjmedfhobebaaGreat
open Go.RowKit HandSpec
set_option maxHeartbeats 800000
set_option maxRecDepth 100000
theorem keep_short {x : WD} (hx : Ok x) : P.keep x (stretches x.cn) = R.short x := by
  unfold P.keep R.short
  refine List.filter_congr fun p hp => ?_
  obtain ⟨h1, h2⟩ := mem_stretches.1 hp
  rw [P.gap_eq hx (Nat.le_of_lt h1) h2]
theorem run205 (p q a b : Nat) {w : World} {g : Nat} (hb : Blk w g 51 #[.int .i64 (a : Int), .int .i64 (b : Int)]) :
    Calls Tryz.prog 205 #[.agg #[.int .i64 (p : Int), .int .i64 (q : Int)], .pointer (some ⟨g, 0, none⟩)] w fun e w' => e = .returned (.bool (P.innerB (a, b) (p, q))) ∧ Ext w w' := by
  have k0 := hb.cell
  have kl := hb.lt
  go_enter Tryz.func205, Tryz.ntmps205
  go_wp2
  all_goals
    go_ret
    refine ⟨ret_bool ?_, (Ext.refl _).alloc _⟩
    simp [P.innerB] at *
    omega
/-- A block of one pointer, and one of a number. -/
theorem run200 {x : WD} (hx : Ok x) {w : World} {u : Value} (hu : IsD w u x) {a b : Nat} (hab : a < b) (hb : b < x.cn) {g1 g2 m : Nat} (hm : m < 64) (h1 : Blk w g1 170 #[u]) (h2 : Blk w g2 3 #[.int .i64 (m : Int)]) :
    Calls Tryz.prog 200 #[.agg #[.int .i64 (a : Int), .int .i64 (b : Int)], .pointer (some ⟨g1, 0, none⟩), .pointer (some ⟨g2, 0, none⟩)] w fun e w' => e = .returned (.bool (decide (P.th x a b &&& m ≠ 0))) ∧ Ext w w' := by
  obtain ⟨db, A1, c1, A2, c2, A3, c3, mb, L, rfl, hk, -, -, -, hmp, hl⟩ := hu
  have hlk : ∀ w1, Ext w w1 → ∀ n : Later w1, (Instr.lookup 187 (.map (some mb)) (.agg #[.int .i64 (a : Int), .int .i64 (b : Int)]) false).run Tryz.prog n.at_ = .ok (.int .i64 (P.th x a b : Int)) n.at_ := fun w1 e n => by
    rw [lookup_run (hmp.ext (e.trans n.ok)), hl a b hab hb]
  have HLK := hid hlk
  have ha : bits .and .i64 (P.th x a b : Int) (m : Int) = ((P.th x a b &&& m : Nat) : Int) := and64 (P.th_lt hx a b) hm
  clear hl hlk
  have he : (((P.th x a b &&& m : Nat) : Int) == 0) = !decide (P.th x a b &&& m ≠ 0) := by
    by_cases q : P.th x a b &&& m = 0 <;> simp [q]
  have HE := hid he
  clear he
  go_enter Tryz.func200, Tryz.ntmps200
  go_wp2
  refine wp_later fun w1 hw1 => ?_
  obtain ⟨he, hb3⟩ := hw1.newB
  have k3 := hb3.cell
  have k3l := hb3.lt
  have k1 := (h1.ext he).cell
  have k1l := (h1.ext he).lt
  have k2 := (h2.ext he).cell
  have k2l := (h2.ext he).lt
  have kd := (hk.ext he).cell
  have kdl := (hk.ext he).lt
  have hlk := HLK.out w1 he
  clear hw1
  refine wp_region_later (by kernel_rfl) (by kernel_rfl) ?_
  repeat (go_big_quiet_step (fail))
  refine wpQuiet_nil ?_
  rintro _ ⟨⟨w2, he2⟩, rfl⟩
  go_wp2
  go_ret
  exact ⟨ret_bool (by show (!(((P.th x a b &&& m : Nat) : Int) == 0)) = _; rw [HE.out]; simp), he.trans he2⟩
theorem asks205 {w : World} {g : Nat} {s : Nat × Nat} (l : List (Nat × Nat)) (hb : Blk w g 51 #[.int .i64 (s.1 : Int), .int .i64 (s.2 : Int)]) :
    Asks w (.func (.func 205) #[] #[.pointer (some ⟨g, 0, none⟩)]) l.length (enc2 (rowsAt (rows2 l))) (fun k => P.innerB s (nth l k)) :=
  ⟨_, _, rfl, enters_ Tryz.func205 (by kernel_rfl) rfl, fun k hk w' e => by
    unfold enc2
    rw [rows2_at0 l hk, rows2_at1 l hk]
    exact run205 _ _ _ _ (hb.ext e)⟩
theorem asks200 {x : WD} (hx : Ok x) {w : World} {u : Value} (hu : IsD w u x) {g1 g2 m : Nat} (hm : m < 64) (h1 : Blk w g1 170 #[u]) (h2 : Blk w g2 3 #[.int .i64 (m : Int)]) (l : List (Nat × Nat)) (hl : ∀ p, p ∈ l → p.1 < p.2 ∧ p.2 < x.cn) :
    Asks w (.func (.func 200) #[] #[.pointer (some ⟨g1, 0, none⟩), .pointer (some ⟨g2, 0, none⟩)]) l.length (enc2 (rowsAt (rows2 l))) (fun k => !P.lfQ x m (nth l k)) :=
  ⟨_, _, rfl, enters_ Tryz.func200 (by kernel_rfl) rfl, fun k hk w' e => by
    unfold enc2
    rw [rows2_at0 l hk, rows2_at1 l hk]
    obtain ⟨a1, a2⟩ := hl (nth l k) (by rw [nth_get l hk]; exact List.getElem_mem hk)
    have := run200 hx (hu.ext e) a1 a2 hm (h1.ext e) (h2.ext e)
    unfold P.lfQ
    simp only [Bool.not_not]
    exact this⟩
theorem anyTo_any (l : List (Nat × Nat)) (f : Nat × Nat → Bool) : anyTo (fun k => f (nth l k)) l.length = l.any f := by
  rw [Bool.eq_iff_iff, anyTo_true, List.any_eq_true]
  constructor
  · rintro ⟨k, hk, h⟩
    exact ⟨nth l k, by rw [nth_get l hk]; exact List.getElem_mem hk, h⟩
  · rintro ⟨p, hp, h⟩
    obtain ⟨k, hk, rfl⟩ := List.getElem_of_mem hp
    exact ⟨k, hk, by rw [nth_get l hk]; exact h⟩
theorem run204 {w : World} {g : Nat} {u : Value} {l : List (Nat × Nat)} (hb : Blk w g 45 #[u]) (hu : SlR w 2 u (rows2 l)) (hn : l.length ≤ 1000) (s : Nat × Nat) :
    Calls Tryz.prog 204 #[.agg #[.int .i64 (s.1 : Int), .int .i64 (s.2 : Int)], .pointer (some ⟨g, 0, none⟩)] w fun e w' => e = .returned (.bool (l.any (P.innerB s))) ∧ Ext w w' := by
  have hmf : ∀ (fn : Fn) (first cap : Array Value) (w : World), (Instr.makeFunc fn first cap).run Tryz.prog w = .ok (.func fn first cap) w := fun _ _ _ _ => rfl
  obtain ⟨A, cap, rfl, hr⟩ := hu
  rw [rows2_length] at hr hb
  have k0 := hb.cell
  have kl := hb.lt
  have e0 : Ext w (w.alloc (.cells #[.int .i64 (s.1 : Int), .int .i64 (s.2 : Int)] 51)) := (Ext.refl _).alloc _
  have HA := hid (asks205 l (Blk.new w 51 #[.int .i64 (s.1 : Int), .int .i64 (s.2 : Int)]))
  have HE := hid (anyTo_any l (P.innerB s))
  go_enter Tryz.func204, Tryz.ntmps204
  go_wp2_with (go_at_call 105; refine (containsFunc105 (hr.ext e0) (by omega) HA.out).mono ?_; rintro e w1 ⟨rfl, he1⟩)
  go_ret
  exact ⟨ret_bool HE.out, e0.trans he1⟩
theorem asks204 {w : World} {g : Nat} {u : Value} {l : List (Nat × Nat)} (hb : Blk w g 45 #[u]) (hu : SlR w 2 u (rows2 l)) (hn : l.length ≤ 1000) :
    Asks w (.func (.func 204) #[] #[.pointer (some ⟨g, 0, none⟩)]) l.length (enc2 (rowsAt (rows2 l))) (fun k => !P.smQ l (nth l k)) :=
  ⟨_, _, rfl, enters_ Tryz.func204 (by kernel_rfl) rfl, fun k hk w' e => by
    unfold enc2
    rw [rows2_at0 l hk, rows2_at1 l hk]
    have := run204 (hb.ext e) (hu.ext e) hn (nth l k)
    unfold P.smQ
    simp only [Bool.not_not]
    exact this⟩
theorem smallestP_any {x : WD} (hx : Ok x) {w : World} {v : Value} (hv : IsD w v x) :
    Calls Tryz.prog 143 #[v] w fun e w' => ∃ u, e = .returned u ∧ Ext w w' ∧ MyP w' w.heap.size u (P.smallest x) := by
  have hmf : ∀ (fn : Fn) (first cap : Array Value) (w : World), (Instr.makeFunc fn first cap).run Tryz.prog w = .ok (.func fn first cap) w := fun _ _ _ _ => rfl
  have HV := hid hv
  obtain ⟨db, A1, c1, A2, c2, A3, c3, mb, L, rfl, -, -, -, -, -, -⟩ := hv
  have hll : (R.short x).length ≤ 1000 := by
    have := R.short_length x
    have h1 := hx.cn
    have : x.cn * x.cn ≤ 8 * 8 := Nat.mul_le_mul h1.2 h1.2
    omega
  go_enter Tryz.func143, Tryz.ntmps143
  go_upto_region 2 with (go_at_call 142; refine (shortP_any hx HV.out).mono ?_; rintro e w1 ⟨u, rfl, he1, hu⟩; rw [keep_short hx] at hu; have HU := hid hu.slR; clear hu; obtain ⟨A, cap, rfl, hr⟩ := HU.out; rw [rows2_length] at hr)
  refine wp_later fun w2 hw2 => ?_
  obtain ⟨he2, hb3⟩ := hw2.newB
  have HA := hid (asks204 hb3 (HU.out.ext he2) hll)
  have k3 := hb3.cell
  have k3l := hb3.lt
  have hs1 := he1.size
  have hr := hr.ext he2
  clear hw2
  go_wp2_with (first
    | (go_at_call 80; rw [rows2_length]; refine (clone80 hr (by omega)).mono ?_; rintro e w3 ⟨u2, rfl, he3, hu2⟩; rw [rowsG2] at hu2; have HO := hid (MyP.of_own hu2); clear hu2)
    | (go_at_call 199; refine (deleteFunc199 HO.out he3 (Nat.le_refl _) hll HA.out).mono ?_; rintro e w4 ⟨u3, rfl, he4, hu3⟩))
  go_ret
  exact ⟨u3, rfl, he1.trans (he2.trans he4), hu3.base (Nat.le_trans hs1 he2.size)⟩
theorem smallest_mem {x : WD} {p : Nat × Nat} (h : p ∈ P.smallest x) : p.1 < p.2 ∧ p.2 < x.cn := by
  unfold P.smallest at h
  exact (R.mem_short.1 (List.mem_filter.1 h).1).1
theorem leftP_any {x : WD} (hx : Ok x) {w : World} {v : Value} (hv : IsD w v x) {m : Nat} (hm : m < 64) :
    Calls Tryz.prog 131 #[v, .int .i64 (m : Int)] w fun e w' => ∃ u, e = .returned u ∧ Ext w w' ∧ MyP w' w.heap.size u (P.left x m) := by
  have hmf : ∀ (fn : Fn) (first cap : Array Value) (w : World), (Instr.makeFunc fn first cap).run Tryz.prog w = .ok (.func fn first cap) w := fun _ _ _ _ => rfl
  have HV := hid hv
  obtain ⟨db, A1, c1, A2, c2, A3, c3, mb, L, rfl, -, -, -, -, -, -⟩ := hv
  have hll : (P.smallest x).length ≤ 1000 := by
    have := R.short_length x
    have h1 := hx.cn
    have : x.cn * x.cn ≤ 8 * 8 := Nat.mul_le_mul h1.2 h1.2
    have := List.length_filter_le (P.smQ (R.short x)) (R.short x)
    unfold P.smallest
    omega
  go_enter Tryz.func131, Tryz.ntmps131
  go_upto_region 1 with fail
  refine wp_later fun w1 hw1 => ?_
  obtain ⟨he, hb2, hb3⟩ := hw1.newB2
  have HA := hid (asks200 hx (HV.out.ext he) hm hb2 hb3 (P.smallest x) (fun p hp => smallest_mem hp))
  have k2 := hb2.cell
  have k2l := hb2.lt
  have k3 := hb3.cell
  have k3l := hb3.lt
  go_wp2_with (first
    | (go_at_call 143; refine (smallestP_any hx (HV.out.ext he)).mono ?_; rintro e w2 ⟨u2, rfl, he2, hu2⟩; have HO := hid hu2; clear hu2)
    | (go_at_call 199; refine (deleteFunc199 HO.out he2 (Nat.le_refl _) hll HA.out).mono ?_; rintro e w3 ⟨u3, rfl, he3, hu3⟩))
  go_ret
  exact ⟨u3, rfl, he.trans he3, hu3.base he.size⟩
end Go.Proofs.YtkhjmedfhobebaaGreat
