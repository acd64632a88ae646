/- The law's examples (18): what is reckoned there, and its walk. No condition. -/
import Derived.Test.YtbceepjjdfpfmaaGreatSho
import Derived.Test.YtbceepjjdfpfmaaGreatSetW
import Derived.Test.YtbceepjjdfpfmaaGreatOwed
import Derived.Test.YtbceepjjdfpfmaaGreatPaid
import Derived.Test.YtbceepjjdfpfmaaGreatCanB
import Derived.Test.YtbceepjjdfpfmaaGreatLawB
namespace Go.Proofs.YtbceepjjdfpfmaaGreat
open Go.RowKit HandSpec LoanSpec
set_option maxHeartbeats 2000000
set_option maxRecDepth 100000
def dT (i j : Nat) : Int := ([[0, 0, 0, 7], [11, 0, 0, 0], [0, 11, 0, 0], [0, 0, 5, 0]].getD i []).getD j 0
theorem aw_chk : three.chk = 0 := by decide +kernel
theorem aw_b : P.errB three 0 = 0 := by decide +kernel
theorem aw_w : P.errW three 1 1 = 0 := by decide +kernel
theorem aw_l : P.errL three 0 = 0 := by decide +kernel
theorem aw_over : P.overOf three 0 = 0 := by decide +kernel
theorem aw_parts : P.partsOf three 0 = [(0, 44), (1, 6)] := by decide +kernel
theorem aw_due : P.overdue three 1 1 = 11 := by decide +kernel
theorem aw_owed : ∀ i, i < 4 → ∀ j, j < 4 → P.owed three i j = dT i j := by decide +kernel
theorem aw_pv : P.paidV three 0 = 1 := by decide +kernel
theorem aw_pe : P.paidE three 0 = 0 := by decide +kernel
theorem aw_d : chkD 4 (fun _ => 4) dT = 0 := by decide +kernel
theorem aw_net : ∀ i, i < 4 → netTo dT 4 4 i = [4, 0, -6, 2].getD i 0 := by decide +kernel
def cT (i : Nat) : Int := [0, 3, 2, 1].getD i 0
theorem aw_ce : errC 4 (fun _ => 4) dT 4 cT = 0 := by decide +kernel
theorem aw_cut : ∀ i, i < 4 → ∀ j, j < 4 → cutC dT (fun k => (cT k).toNat) 4 (lowC dT (fun k => (cT k).toNat) 4 4) 4 i j = ([[0, 0, 0, 2], [6, 0, 0, 0], [0, 6, 0, 0], [0, 0, 0, 0]].getD i []).getD j 0 := by decide +kernel
theorem aw_grp : groupsM (netTo dT 4 4) 4 = [13] := by decide +kernel
theorem aw_set : (settleM [13] (netTo dT 4 4)).l.length = 2 := by decide +kernel
def gT (_ j : Nat) : Int := [0, 2, 3].getD j 0
theorem aw_se : showE 4 (fun _ => 4) dT 1 (fun _ => 3) gT = 0 := by decide +kernel
theorem aw_sv : showV 4 (fun _ => 4) dT 1 (fun _ => 3) gT = 2 := by decide +kernel
theorem aw_sm : Sm three := ⟨by decide, by decide, by decide, by decide, by decide⟩
theorem rd1_4 {w : World} {g : Nat} {t : TypeId} {a b c d : Int} (h : Blk w g t #[.int .i64 a, .int .i64 b, .int .i64 c, .int .i64 d]) : Rd w (some ⟨g, 0, none⟩) 4 1 (fun k _ => [a, b, c, d].getD k 0) := rdB h fun k hk j hj => by
  obtain rfl : j = 0 := by omega
  have hk' : k = 0 ∨ k = 1 ∨ k = 2 ∨ k = 3 := by omega
  rcases hk' with rfl | rfl | rfl | rfl <;> rfl
theorem rd1_3 {w : World} {g : Nat} {t : TypeId} {a b c : Int} (h : Blk w g t #[.int .i64 a, .int .i64 b, .int .i64 c]) : Rd w (some ⟨g, 0, none⟩) 3 1 (fun k _ => [a, b, c].getD k 0) := rdB h fun k hk j hj => by
  obtain rfl : j = 0 := by omega
  have hk' : k = 0 ∨ k = 1 ∨ k = 2 := by omega
  rcases hk' with rfl | rfl | rfl <;> rfl
theorem booked_aw {p : LA} {w : World} (hl : IsLA w three p) (hc : three.pn ≤ p.c4) : Calls Tryz.prog 40 #[ledV three p, .int .i64 0] w fun e w' => ∃ A c, e = .returned (.tuple #[.slice A 2 c, .int .i64 0, .int .i64 0]) ∧ Ext w w' ∧ Rd w' A 2 2 (rowsAt (rowsP [(0, 44), (1, 6)])) := by
  have h := booked_ok hl aw_sm hc (j := 0) aw_b
  rw [aw_over, aw_parts] at h
  refine h.mono ?_
  rintro e w' ⟨u, rfl, he, ho⟩
  obtain ⟨A, c, rfl, hr⟩ := ho.slR
  exact ⟨A, c, rfl, he, hr⟩
theorem overdue_aw {p : LA} {w : World} (hl : IsLA w three p) : Calls Tryz.prog 26 #[ledV three p, .int .i64 1, .int .i64 1] w fun e w' => e = .returned (.tuple #[.int .i64 11, .int .i64 0]) ∧ Ext w w' := by
  have h := overdue_ok hl aw_sm (who := 1) (year := 1) aw_w
  rw [aw_due] at h
  exact h
theorem paid_aw {p : LA} {w : World} (hl : IsLA w three p) : Calls Tryz.prog 45 #[ledV three p, .int .i64 0] w fun e w' => e = .returned (.tuple #[.int .i64 1, .int .i64 0]) ∧ Ext w w' := by
  have h := paid_ok hl aw_sm (j := 0) aw_l
  rw [aw_pv, aw_pe] at h
  exact h
theorem owed_aw {p : LA} {w : World} (hl : IsLA w three p) : Calls Tryz.prog 27 #[ledV three p] w fun e w' => ∃ A c, e = .returned (.tuple #[.slice A 4 c, .int .i64 0]) ∧ Ext w w' ∧ RdN w' A 4 (fun _ => 4) dT := by
  refine (owed_ok hl aw_sm aw_chk).mono ?_
  rintro e w' ⟨u, rfl, he, g, r, c, cap, rfl, hm⟩
  exact ⟨_, _, rfl, he, (hm.congr (m' := dT) fun i hi j hj => aw_owed i hi j hj).rdN⟩
theorem net_aw {w : World} {A : Option Addr} {c : Nat} (hr : RdN w A 4 (fun _ => 4) dT) : Calls Tryz.prog 32 #[.slice A 4 c] w fun e w' => ∃ G, e = .returned (.tuple #[.slice (some ⟨G, 0, none⟩) 4 4, .int .i64 0]) ∧ Ext w w' ∧ Rd w' (some ⟨G, 0, none⟩) 4 1 (fun k _ => [4, 0, -6, 2].getD k 0) := by
  have h := net32 (cap := c) hr (by omega) fun _ _ => by omega
  rw [aw_d] at h
  refine h.mono ?_
  rintro e w' ⟨u, rfl, he, h0⟩
  obtain ⟨G, rfl, -, ha⟩ := h0 rfl
  exact ⟨G, rfl, he, (ha.congr fun i hi => aw_net i hi).rd fun _ => rfl⟩
theorem cancel_aw {w : World} {A Ac : Option Addr} {c cc : Nat} (hr : RdN w A 4 (fun _ => 4) dT) (hc : Rd w Ac 4 1 (fun k _ => [0, 3, 2, 1].getD k 0)) (hcc : 4 ≤ cc) :
    Calls Tryz.prog 77 #[.slice A 4 c, .slice Ac 4 cc] w fun e w' => ∃ A' c', e = .returned (.tuple #[.slice A' 4 c', .int .i64 0]) ∧ Ext w w' ∧ RdN w' A' 4 (fun _ => 4) (fun i j => ([[0, 0, 0, 2], [6, 0, 0, 0], [0, 6, 0, 0], [0, 0, 0, 0]].getD i []).getD j 0) := by
  have h := cancel77 (cap := c) (capc := cc) (f := cT) hr (by omega) (fun _ _ => by omega) hc (by omega) hcc
  rw [aw_ce] at h
  refine h.mono ?_
  rintro e w' ⟨u, rfl, he, h0⟩
  obtain ⟨g, r, c, cap, rfl, hm⟩ := h0 rfl
  exact ⟨_, _, rfl, he, (hm.congr fun i hi j hj => aw_cut i hi j hj).rdN⟩
theorem fewest_aw {w : World} {A : Option Addr} {c : Nat} (hr : RdN w A 4 (fun _ => 4) dT) : Calls Tryz.prog 59 #[.slice A 4 c] w fun e w' => e = .returned (.tuple #[.int .i64 2, .int .i64 0]) ∧ Ext w w' := by
  have h := fewest59 (cap := c) hr (by omega) fun _ _ => by omega
  rw [aw_d] at h
  refine h.mono ?_
  rintro e w' ⟨z, rfl, he, -, h0⟩
  obtain ⟨L', hp, -, hz⟩ := h0 rfl
  rw [aw_grp] at hp
  obtain rfl := List.perm_singleton.1 hp
  rw [aw_set] at hz
  rw [hz]
  exact ⟨rfl, he⟩
theorem shows_aw {w : World} {A Ag : Option Addr} {c cg : Nat} (hr : RdN w A 4 (fun _ => 4) dT) (hg : RdN w Ag 1 (fun _ => 3) gT) : Calls Tryz.prog 62 #[.slice A 4 c, .slice Ag 1 cg] w fun e w' => e = .returned (.tuple #[.int .i64 2, .int .i64 0]) ∧ Ext w w' := by
  have h := shows62 (cap := c) (capg := cg) hr (by omega) (fun _ _ => by omega) hg (by omega) fun _ _ => by omega
  rw [aw_se, aw_sv] at h
  exact h
theorem eq46_aw {W : World} {A : Option Addr} {q : Nat} (hr : Rd W A 2 2 (rowsAt (rowsP [(0, 44), (1, 6)]))) :
    Calls Tryz.prog 46 #[.slice A 2 q, .slice (some ⟨W.heap.size, 0, none⟩) 2 2] (W.alloc (.cells #[.int .i64 0, .int .i64 44, .int .i64 1, .int .i64 6] 76)) fun e w' => e = .returned (.bool true) ∧ Ext W w' := by
  have h2 : Rd (W.alloc (.cells #[.int .i64 0, .int .i64 44, .int .i64 1, .int .i64 6] 76)) (some ⟨W.heap.size, 0, none⟩) 2 2 (fun k j => ([[0, 44], [1, 6]].getD k []).getD j 0) := rdB (Blk.new W 76 _) fun k hk j hj => by
    have hk' : k = 0 ∨ k = 1 := by omega
    have hj' : j = 0 ∨ j = 1 := by omega
    rcases hk' with rfl | rfl <;> rcases hj' with rfl | rfl <;> rfl
  refine (eq46 (hr.ext ((Ext.refl _).alloc _)) h2 (by omega) (by omega)).mono ?_
  rintro e w' ⟨rfl, he⟩
  exact ⟨ret_bool (by decide +kernel), ((Ext.refl _).alloc _).trans he⟩
theorem eq34_aw {W : World} {A : Option Addr} {q : Nat} (hr : Rd W A 4 1 (fun k _ => [4, 0, -6, 2].getD k 0)) :
    Calls Tryz.prog 34 #[.slice A 4 q, .slice (some ⟨W.heap.size, 0, none⟩) 4 4] (W.alloc (.cells #[.int .i64 4, .int .i64 0, .int .i64 (-6), .int .i64 2] 3)) fun e w' => e = .returned (.bool true) ∧ Ext W w' := by
  refine (eq34 (hr.ext ((Ext.refl _).alloc _)) (rd1_4 (Blk.new W 3 _)) (by omega) (by omega)).mono ?_
  rintro e w' ⟨rfl, he⟩
  exact ⟨ret_bool (by decide +kernel), ((Ext.refl _).alloc _).trans he⟩
theorem eqD_aw {W : World} {A : Option Addr} {c : Nat} (hr : RdN W A 4 (fun _ => 4) dT) :
    Calls Tryz.prog 28 #[.slice A 4 c, .slice (some ⟨W.heap.size + 1 + 1 + 1 + 1, 0, none⟩) 4 4] (((((W.alloc (.cells #[.int .i64 0, .int .i64 0, .int .i64 0, .int .i64 7] 3)).alloc (.cells #[.int .i64 11, .int .i64 0, .int .i64 0, .int .i64 0] 3)).alloc (.cells #[.int .i64 0, .int .i64 11, .int .i64 0, .int .i64 0] 3)).alloc (.cells #[.int .i64 0, .int .i64 0, .int .i64 5, .int .i64 0] 3)).alloc (.cells #[.slice (some ⟨W.heap.size, 0, none⟩) 4 4, .slice (some ⟨W.heap.size + 1, 0, none⟩) 4 4, .slice (some ⟨W.heap.size + 1 + 1, 0, none⟩) 4 4, .slice (some ⟨W.heap.size + 1 + 1 + 1, 0, none⟩) 4 4] 22)) fun e w' => e = .returned (.bool true) ∧ Ext W w' := by
  have e0 : Ext W (((((W.alloc (.cells #[.int .i64 0, .int .i64 0, .int .i64 0, .int .i64 7] 3)).alloc (.cells #[.int .i64 11, .int .i64 0, .int .i64 0, .int .i64 0] 3)).alloc (.cells #[.int .i64 0, .int .i64 11, .int .i64 0, .int .i64 0] 3)).alloc (.cells #[.int .i64 0, .int .i64 0, .int .i64 5, .int .i64 0] 3)).alloc (.cells #[.slice (some ⟨W.heap.size, 0, none⟩) 4 4, .slice (some ⟨W.heap.size + 1, 0, none⟩) 4 4, .slice (some ⟨W.heap.size + 1 + 1, 0, none⟩) 4 4, .slice (some ⟨W.heap.size + 1 + 1 + 1, 0, none⟩) 4 4] 22)) := ((((((Ext.refl W).alloc _).alloc _).alloc _).alloc _).alloc _)
  have b0 : Blk (((((W.alloc (.cells #[.int .i64 0, .int .i64 0, .int .i64 0, .int .i64 7] 3)).alloc (.cells #[.int .i64 11, .int .i64 0, .int .i64 0, .int .i64 0] 3)).alloc (.cells #[.int .i64 0, .int .i64 11, .int .i64 0, .int .i64 0] 3)).alloc (.cells #[.int .i64 0, .int .i64 0, .int .i64 5, .int .i64 0] 3)).alloc (.cells #[.slice (some ⟨W.heap.size, 0, none⟩) 4 4, .slice (some ⟨W.heap.size + 1, 0, none⟩) 4 4, .slice (some ⟨W.heap.size + 1 + 1, 0, none⟩) 4 4, .slice (some ⟨W.heap.size + 1 + 1 + 1, 0, none⟩) 4 4] 22)) (W.heap.size) 3 #[.int .i64 0, .int .i64 0, .int .i64 0, .int .i64 7] := by
    have h := (Blk.new W 3 #[.int .i64 0, .int .i64 0, .int .i64 0, .int .i64 7]).ext (((((Ext.refl _).alloc (.cells #[.int .i64 11, .int .i64 0, .int .i64 0, .int .i64 0] 3)).alloc (.cells #[.int .i64 0, .int .i64 11, .int .i64 0, .int .i64 0] 3)).alloc (.cells #[.int .i64 0, .int .i64 0, .int .i64 5, .int .i64 0] 3)).alloc (.cells #[.slice (some ⟨W.heap.size, 0, none⟩) 4 4, .slice (some ⟨W.heap.size + 1, 0, none⟩) 4 4, .slice (some ⟨W.heap.size + 1 + 1, 0, none⟩) 4 4, .slice (some ⟨W.heap.size + 1 + 1 + 1, 0, none⟩) 4 4] 22))
    exact h
  have b1 : Blk (((((W.alloc (.cells #[.int .i64 0, .int .i64 0, .int .i64 0, .int .i64 7] 3)).alloc (.cells #[.int .i64 11, .int .i64 0, .int .i64 0, .int .i64 0] 3)).alloc (.cells #[.int .i64 0, .int .i64 11, .int .i64 0, .int .i64 0] 3)).alloc (.cells #[.int .i64 0, .int .i64 0, .int .i64 5, .int .i64 0] 3)).alloc (.cells #[.slice (some ⟨W.heap.size, 0, none⟩) 4 4, .slice (some ⟨W.heap.size + 1, 0, none⟩) 4 4, .slice (some ⟨W.heap.size + 1 + 1, 0, none⟩) 4 4, .slice (some ⟨W.heap.size + 1 + 1 + 1, 0, none⟩) 4 4] 22)) (W.heap.size + 1) 3 #[.int .i64 11, .int .i64 0, .int .i64 0, .int .i64 0] := by
    have h := (Blk.new (W.alloc (.cells #[.int .i64 0, .int .i64 0, .int .i64 0, .int .i64 7] 3)) 3 #[.int .i64 11, .int .i64 0, .int .i64 0, .int .i64 0]).ext ((((Ext.refl _).alloc (.cells #[.int .i64 0, .int .i64 11, .int .i64 0, .int .i64 0] 3)).alloc (.cells #[.int .i64 0, .int .i64 0, .int .i64 5, .int .i64 0] 3)).alloc (.cells #[.slice (some ⟨W.heap.size, 0, none⟩) 4 4, .slice (some ⟨W.heap.size + 1, 0, none⟩) 4 4, .slice (some ⟨W.heap.size + 1 + 1, 0, none⟩) 4 4, .slice (some ⟨W.heap.size + 1 + 1 + 1, 0, none⟩) 4 4] 22))
    simpa using h
  have b2 : Blk (((((W.alloc (.cells #[.int .i64 0, .int .i64 0, .int .i64 0, .int .i64 7] 3)).alloc (.cells #[.int .i64 11, .int .i64 0, .int .i64 0, .int .i64 0] 3)).alloc (.cells #[.int .i64 0, .int .i64 11, .int .i64 0, .int .i64 0] 3)).alloc (.cells #[.int .i64 0, .int .i64 0, .int .i64 5, .int .i64 0] 3)).alloc (.cells #[.slice (some ⟨W.heap.size, 0, none⟩) 4 4, .slice (some ⟨W.heap.size + 1, 0, none⟩) 4 4, .slice (some ⟨W.heap.size + 1 + 1, 0, none⟩) 4 4, .slice (some ⟨W.heap.size + 1 + 1 + 1, 0, none⟩) 4 4] 22)) (W.heap.size + 1 + 1) 3 #[.int .i64 0, .int .i64 11, .int .i64 0, .int .i64 0] := by
    have h := (Blk.new ((W.alloc (.cells #[.int .i64 0, .int .i64 0, .int .i64 0, .int .i64 7] 3)).alloc (.cells #[.int .i64 11, .int .i64 0, .int .i64 0, .int .i64 0] 3)) 3 #[.int .i64 0, .int .i64 11, .int .i64 0, .int .i64 0]).ext (((Ext.refl _).alloc (.cells #[.int .i64 0, .int .i64 0, .int .i64 5, .int .i64 0] 3)).alloc (.cells #[.slice (some ⟨W.heap.size, 0, none⟩) 4 4, .slice (some ⟨W.heap.size + 1, 0, none⟩) 4 4, .slice (some ⟨W.heap.size + 1 + 1, 0, none⟩) 4 4, .slice (some ⟨W.heap.size + 1 + 1 + 1, 0, none⟩) 4 4] 22))
    simpa using h
  have b3 : Blk (((((W.alloc (.cells #[.int .i64 0, .int .i64 0, .int .i64 0, .int .i64 7] 3)).alloc (.cells #[.int .i64 11, .int .i64 0, .int .i64 0, .int .i64 0] 3)).alloc (.cells #[.int .i64 0, .int .i64 11, .int .i64 0, .int .i64 0] 3)).alloc (.cells #[.int .i64 0, .int .i64 0, .int .i64 5, .int .i64 0] 3)).alloc (.cells #[.slice (some ⟨W.heap.size, 0, none⟩) 4 4, .slice (some ⟨W.heap.size + 1, 0, none⟩) 4 4, .slice (some ⟨W.heap.size + 1 + 1, 0, none⟩) 4 4, .slice (some ⟨W.heap.size + 1 + 1 + 1, 0, none⟩) 4 4] 22)) (W.heap.size + 1 + 1 + 1) 3 #[.int .i64 0, .int .i64 0, .int .i64 5, .int .i64 0] := by
    have h := (Blk.new (((W.alloc (.cells #[.int .i64 0, .int .i64 0, .int .i64 0, .int .i64 7] 3)).alloc (.cells #[.int .i64 11, .int .i64 0, .int .i64 0, .int .i64 0] 3)).alloc (.cells #[.int .i64 0, .int .i64 11, .int .i64 0, .int .i64 0] 3)) 3 #[.int .i64 0, .int .i64 0, .int .i64 5, .int .i64 0]).ext ((Ext.refl _).alloc (.cells #[.slice (some ⟨W.heap.size, 0, none⟩) 4 4, .slice (some ⟨W.heap.size + 1, 0, none⟩) 4 4, .slice (some ⟨W.heap.size + 1 + 1, 0, none⟩) 4 4, .slice (some ⟨W.heap.size + 1 + 1 + 1, 0, none⟩) 4 4] 22))
    simpa using h
  have b4 : Blk (((((W.alloc (.cells #[.int .i64 0, .int .i64 0, .int .i64 0, .int .i64 7] 3)).alloc (.cells #[.int .i64 11, .int .i64 0, .int .i64 0, .int .i64 0] 3)).alloc (.cells #[.int .i64 0, .int .i64 11, .int .i64 0, .int .i64 0] 3)).alloc (.cells #[.int .i64 0, .int .i64 0, .int .i64 5, .int .i64 0] 3)).alloc (.cells #[.slice (some ⟨W.heap.size, 0, none⟩) 4 4, .slice (some ⟨W.heap.size + 1, 0, none⟩) 4 4, .slice (some ⟨W.heap.size + 1 + 1, 0, none⟩) 4 4, .slice (some ⟨W.heap.size + 1 + 1 + 1, 0, none⟩) 4 4] 22)) (W.heap.size + 1 + 1 + 1 + 1) 22 #[.slice (some ⟨W.heap.size, 0, none⟩) 4 4, .slice (some ⟨W.heap.size + 1, 0, none⟩) 4 4, .slice (some ⟨W.heap.size + 1 + 1, 0, none⟩) 4 4, .slice (some ⟨W.heap.size + 1 + 1 + 1, 0, none⟩) 4 4] := by
    have h := Blk.new ((((W.alloc (.cells #[.int .i64 0, .int .i64 0, .int .i64 0, .int .i64 7] 3)).alloc (.cells #[.int .i64 11, .int .i64 0, .int .i64 0, .int .i64 0] 3)).alloc (.cells #[.int .i64 0, .int .i64 11, .int .i64 0, .int .i64 0] 3)).alloc (.cells #[.int .i64 0, .int .i64 0, .int .i64 5, .int .i64 0] 3)) 22 #[.slice (some ⟨W.heap.size, 0, none⟩) 4 4, .slice (some ⟨W.heap.size + 1, 0, none⟩) 4 4, .slice (some ⟨W.heap.size + 1 + 1, 0, none⟩) 4 4, .slice (some ⟨W.heap.size + 1 + 1 + 1, 0, none⟩) 4 4]
    simpa using h
  have r4 : RdN (((((W.alloc (.cells #[.int .i64 0, .int .i64 0, .int .i64 0, .int .i64 7] 3)).alloc (.cells #[.int .i64 11, .int .i64 0, .int .i64 0, .int .i64 0] 3)).alloc (.cells #[.int .i64 0, .int .i64 11, .int .i64 0, .int .i64 0] 3)).alloc (.cells #[.int .i64 0, .int .i64 0, .int .i64 5, .int .i64 0] 3)).alloc (.cells #[.slice (some ⟨W.heap.size, 0, none⟩) 4 4, .slice (some ⟨W.heap.size + 1, 0, none⟩) 4 4, .slice (some ⟨W.heap.size + 1 + 1, 0, none⟩) 4 4, .slice (some ⟨W.heap.size + 1 + 1 + 1, 0, none⟩) 4 4] 22)) (some ⟨W.heap.size + 1 + 1 + 1 + 1, 0, none⟩) 4 (fun _ => 4) (fun i j => ([[0, 0, 0, 7], [11, 0, 0, 0], [0, 11, 0, 0], [0, 0, 5, 0]].getD i []).getD j 0) := by
    refine ⟨fun i => [some ⟨W.heap.size, 0, none⟩, some ⟨W.heap.size + 1, 0, none⟩, some ⟨W.heap.size + 1 + 1, 0, none⟩, some ⟨W.heap.size + 1 + 1 + 1, 0, none⟩].getD i none, fun _ => 4, fun _ => ⟨_, 0, rfl, fun k hk => ?_⟩, fun k hk => ?_⟩
    · rw [Nat.zero_add, b4.cell]
      have hk' : k = 0 ∨ k = 1 ∨ k = 2 ∨ k = 3 := by omega
      rcases hk' with rfl | rfl | rfl | rfl <;> rfl
    · have hk' : k = 0 ∨ k = 1 ∨ k = 2 ∨ k = 3 := by omega
      rcases hk' with rfl | rfl | rfl | rfl
      · exact (rd1_4 b0).congr fun i hi j hj => rfl
      · exact (rd1_4 b1).congr fun i hi j hj => rfl
      · exact (rd1_4 b2).congr fun i hi j hj => rfl
      · exact (rd1_4 b3).congr fun i hi j hj => rfl
  refine (eqRows28 (hr.ext e0) r4 (by omega) (by omega) (fun _ _ => by omega) fun _ _ => by omega).mono ?_
  rintro e w' ⟨rfl, he⟩
  exact ⟨ret_bool (by decide +kernel), e0.trans he⟩
theorem eqC_aw {W : World} {A : Option Addr} {c : Nat} (hr : RdN W A 4 (fun _ => 4) (fun i j => ([[0, 0, 0, 2], [6, 0, 0, 0], [0, 6, 0, 0], [0, 0, 0, 0]].getD i []).getD j 0)) :
    Calls Tryz.prog 28 #[.slice A 4 c, .slice (some ⟨W.heap.size + 1 + 1 + 1 + 1, 0, none⟩) 4 4] (((((W.alloc (.cells #[.int .i64 0, .int .i64 0, .int .i64 0, .int .i64 2] 3)).alloc (.cells #[.int .i64 6, .int .i64 0, .int .i64 0, .int .i64 0] 3)).alloc (.cells #[.int .i64 0, .int .i64 6, .int .i64 0, .int .i64 0] 3)).alloc (.cells #[.int .i64 0, .int .i64 0, .int .i64 0, .int .i64 0] 3)).alloc (.cells #[.slice (some ⟨W.heap.size, 0, none⟩) 4 4, .slice (some ⟨W.heap.size + 1, 0, none⟩) 4 4, .slice (some ⟨W.heap.size + 1 + 1, 0, none⟩) 4 4, .slice (some ⟨W.heap.size + 1 + 1 + 1, 0, none⟩) 4 4] 22)) fun e w' => e = .returned (.bool true) ∧ Ext W w' := by
  have e0 : Ext W (((((W.alloc (.cells #[.int .i64 0, .int .i64 0, .int .i64 0, .int .i64 2] 3)).alloc (.cells #[.int .i64 6, .int .i64 0, .int .i64 0, .int .i64 0] 3)).alloc (.cells #[.int .i64 0, .int .i64 6, .int .i64 0, .int .i64 0] 3)).alloc (.cells #[.int .i64 0, .int .i64 0, .int .i64 0, .int .i64 0] 3)).alloc (.cells #[.slice (some ⟨W.heap.size, 0, none⟩) 4 4, .slice (some ⟨W.heap.size + 1, 0, none⟩) 4 4, .slice (some ⟨W.heap.size + 1 + 1, 0, none⟩) 4 4, .slice (some ⟨W.heap.size + 1 + 1 + 1, 0, none⟩) 4 4] 22)) := ((((((Ext.refl W).alloc _).alloc _).alloc _).alloc _).alloc _)
  have b0 : Blk (((((W.alloc (.cells #[.int .i64 0, .int .i64 0, .int .i64 0, .int .i64 2] 3)).alloc (.cells #[.int .i64 6, .int .i64 0, .int .i64 0, .int .i64 0] 3)).alloc (.cells #[.int .i64 0, .int .i64 6, .int .i64 0, .int .i64 0] 3)).alloc (.cells #[.int .i64 0, .int .i64 0, .int .i64 0, .int .i64 0] 3)).alloc (.cells #[.slice (some ⟨W.heap.size, 0, none⟩) 4 4, .slice (some ⟨W.heap.size + 1, 0, none⟩) 4 4, .slice (some ⟨W.heap.size + 1 + 1, 0, none⟩) 4 4, .slice (some ⟨W.heap.size + 1 + 1 + 1, 0, none⟩) 4 4] 22)) (W.heap.size) 3 #[.int .i64 0, .int .i64 0, .int .i64 0, .int .i64 2] := by
    have h := (Blk.new W 3 #[.int .i64 0, .int .i64 0, .int .i64 0, .int .i64 2]).ext (((((Ext.refl _).alloc (.cells #[.int .i64 6, .int .i64 0, .int .i64 0, .int .i64 0] 3)).alloc (.cells #[.int .i64 0, .int .i64 6, .int .i64 0, .int .i64 0] 3)).alloc (.cells #[.int .i64 0, .int .i64 0, .int .i64 0, .int .i64 0] 3)).alloc (.cells #[.slice (some ⟨W.heap.size, 0, none⟩) 4 4, .slice (some ⟨W.heap.size + 1, 0, none⟩) 4 4, .slice (some ⟨W.heap.size + 1 + 1, 0, none⟩) 4 4, .slice (some ⟨W.heap.size + 1 + 1 + 1, 0, none⟩) 4 4] 22))
    exact h
  have b1 : Blk (((((W.alloc (.cells #[.int .i64 0, .int .i64 0, .int .i64 0, .int .i64 2] 3)).alloc (.cells #[.int .i64 6, .int .i64 0, .int .i64 0, .int .i64 0] 3)).alloc (.cells #[.int .i64 0, .int .i64 6, .int .i64 0, .int .i64 0] 3)).alloc (.cells #[.int .i64 0, .int .i64 0, .int .i64 0, .int .i64 0] 3)).alloc (.cells #[.slice (some ⟨W.heap.size, 0, none⟩) 4 4, .slice (some ⟨W.heap.size + 1, 0, none⟩) 4 4, .slice (some ⟨W.heap.size + 1 + 1, 0, none⟩) 4 4, .slice (some ⟨W.heap.size + 1 + 1 + 1, 0, none⟩) 4 4] 22)) (W.heap.size + 1) 3 #[.int .i64 6, .int .i64 0, .int .i64 0, .int .i64 0] := by
    have h := (Blk.new (W.alloc (.cells #[.int .i64 0, .int .i64 0, .int .i64 0, .int .i64 2] 3)) 3 #[.int .i64 6, .int .i64 0, .int .i64 0, .int .i64 0]).ext ((((Ext.refl _).alloc (.cells #[.int .i64 0, .int .i64 6, .int .i64 0, .int .i64 0] 3)).alloc (.cells #[.int .i64 0, .int .i64 0, .int .i64 0, .int .i64 0] 3)).alloc (.cells #[.slice (some ⟨W.heap.size, 0, none⟩) 4 4, .slice (some ⟨W.heap.size + 1, 0, none⟩) 4 4, .slice (some ⟨W.heap.size + 1 + 1, 0, none⟩) 4 4, .slice (some ⟨W.heap.size + 1 + 1 + 1, 0, none⟩) 4 4] 22))
    simpa using h
  have b2 : Blk (((((W.alloc (.cells #[.int .i64 0, .int .i64 0, .int .i64 0, .int .i64 2] 3)).alloc (.cells #[.int .i64 6, .int .i64 0, .int .i64 0, .int .i64 0] 3)).alloc (.cells #[.int .i64 0, .int .i64 6, .int .i64 0, .int .i64 0] 3)).alloc (.cells #[.int .i64 0, .int .i64 0, .int .i64 0, .int .i64 0] 3)).alloc (.cells #[.slice (some ⟨W.heap.size, 0, none⟩) 4 4, .slice (some ⟨W.heap.size + 1, 0, none⟩) 4 4, .slice (some ⟨W.heap.size + 1 + 1, 0, none⟩) 4 4, .slice (some ⟨W.heap.size + 1 + 1 + 1, 0, none⟩) 4 4] 22)) (W.heap.size + 1 + 1) 3 #[.int .i64 0, .int .i64 6, .int .i64 0, .int .i64 0] := by
    have h := (Blk.new ((W.alloc (.cells #[.int .i64 0, .int .i64 0, .int .i64 0, .int .i64 2] 3)).alloc (.cells #[.int .i64 6, .int .i64 0, .int .i64 0, .int .i64 0] 3)) 3 #[.int .i64 0, .int .i64 6, .int .i64 0, .int .i64 0]).ext (((Ext.refl _).alloc (.cells #[.int .i64 0, .int .i64 0, .int .i64 0, .int .i64 0] 3)).alloc (.cells #[.slice (some ⟨W.heap.size, 0, none⟩) 4 4, .slice (some ⟨W.heap.size + 1, 0, none⟩) 4 4, .slice (some ⟨W.heap.size + 1 + 1, 0, none⟩) 4 4, .slice (some ⟨W.heap.size + 1 + 1 + 1, 0, none⟩) 4 4] 22))
    simpa using h
  have b3 : Blk (((((W.alloc (.cells #[.int .i64 0, .int .i64 0, .int .i64 0, .int .i64 2] 3)).alloc (.cells #[.int .i64 6, .int .i64 0, .int .i64 0, .int .i64 0] 3)).alloc (.cells #[.int .i64 0, .int .i64 6, .int .i64 0, .int .i64 0] 3)).alloc (.cells #[.int .i64 0, .int .i64 0, .int .i64 0, .int .i64 0] 3)).alloc (.cells #[.slice (some ⟨W.heap.size, 0, none⟩) 4 4, .slice (some ⟨W.heap.size + 1, 0, none⟩) 4 4, .slice (some ⟨W.heap.size + 1 + 1, 0, none⟩) 4 4, .slice (some ⟨W.heap.size + 1 + 1 + 1, 0, none⟩) 4 4] 22)) (W.heap.size + 1 + 1 + 1) 3 #[.int .i64 0, .int .i64 0, .int .i64 0, .int .i64 0] := by
    have h := (Blk.new (((W.alloc (.cells #[.int .i64 0, .int .i64 0, .int .i64 0, .int .i64 2] 3)).alloc (.cells #[.int .i64 6, .int .i64 0, .int .i64 0, .int .i64 0] 3)).alloc (.cells #[.int .i64 0, .int .i64 6, .int .i64 0, .int .i64 0] 3)) 3 #[.int .i64 0, .int .i64 0, .int .i64 0, .int .i64 0]).ext ((Ext.refl _).alloc (.cells #[.slice (some ⟨W.heap.size, 0, none⟩) 4 4, .slice (some ⟨W.heap.size + 1, 0, none⟩) 4 4, .slice (some ⟨W.heap.size + 1 + 1, 0, none⟩) 4 4, .slice (some ⟨W.heap.size + 1 + 1 + 1, 0, none⟩) 4 4] 22))
    simpa using h
  have b4 : Blk (((((W.alloc (.cells #[.int .i64 0, .int .i64 0, .int .i64 0, .int .i64 2] 3)).alloc (.cells #[.int .i64 6, .int .i64 0, .int .i64 0, .int .i64 0] 3)).alloc (.cells #[.int .i64 0, .int .i64 6, .int .i64 0, .int .i64 0] 3)).alloc (.cells #[.int .i64 0, .int .i64 0, .int .i64 0, .int .i64 0] 3)).alloc (.cells #[.slice (some ⟨W.heap.size, 0, none⟩) 4 4, .slice (some ⟨W.heap.size + 1, 0, none⟩) 4 4, .slice (some ⟨W.heap.size + 1 + 1, 0, none⟩) 4 4, .slice (some ⟨W.heap.size + 1 + 1 + 1, 0, none⟩) 4 4] 22)) (W.heap.size + 1 + 1 + 1 + 1) 22 #[.slice (some ⟨W.heap.size, 0, none⟩) 4 4, .slice (some ⟨W.heap.size + 1, 0, none⟩) 4 4, .slice (some ⟨W.heap.size + 1 + 1, 0, none⟩) 4 4, .slice (some ⟨W.heap.size + 1 + 1 + 1, 0, none⟩) 4 4] := by
    have h := Blk.new ((((W.alloc (.cells #[.int .i64 0, .int .i64 0, .int .i64 0, .int .i64 2] 3)).alloc (.cells #[.int .i64 6, .int .i64 0, .int .i64 0, .int .i64 0] 3)).alloc (.cells #[.int .i64 0, .int .i64 6, .int .i64 0, .int .i64 0] 3)).alloc (.cells #[.int .i64 0, .int .i64 0, .int .i64 0, .int .i64 0] 3)) 22 #[.slice (some ⟨W.heap.size, 0, none⟩) 4 4, .slice (some ⟨W.heap.size + 1, 0, none⟩) 4 4, .slice (some ⟨W.heap.size + 1 + 1, 0, none⟩) 4 4, .slice (some ⟨W.heap.size + 1 + 1 + 1, 0, none⟩) 4 4]
    simpa using h
  have r4 : RdN (((((W.alloc (.cells #[.int .i64 0, .int .i64 0, .int .i64 0, .int .i64 2] 3)).alloc (.cells #[.int .i64 6, .int .i64 0, .int .i64 0, .int .i64 0] 3)).alloc (.cells #[.int .i64 0, .int .i64 6, .int .i64 0, .int .i64 0] 3)).alloc (.cells #[.int .i64 0, .int .i64 0, .int .i64 0, .int .i64 0] 3)).alloc (.cells #[.slice (some ⟨W.heap.size, 0, none⟩) 4 4, .slice (some ⟨W.heap.size + 1, 0, none⟩) 4 4, .slice (some ⟨W.heap.size + 1 + 1, 0, none⟩) 4 4, .slice (some ⟨W.heap.size + 1 + 1 + 1, 0, none⟩) 4 4] 22)) (some ⟨W.heap.size + 1 + 1 + 1 + 1, 0, none⟩) 4 (fun _ => 4) (fun i j => ([[0, 0, 0, 2], [6, 0, 0, 0], [0, 6, 0, 0], [0, 0, 0, 0]].getD i []).getD j 0) := by
    refine ⟨fun i => [some ⟨W.heap.size, 0, none⟩, some ⟨W.heap.size + 1, 0, none⟩, some ⟨W.heap.size + 1 + 1, 0, none⟩, some ⟨W.heap.size + 1 + 1 + 1, 0, none⟩].getD i none, fun _ => 4, fun _ => ⟨_, 0, rfl, fun k hk => ?_⟩, fun k hk => ?_⟩
    · rw [Nat.zero_add, b4.cell]
      have hk' : k = 0 ∨ k = 1 ∨ k = 2 ∨ k = 3 := by omega
      rcases hk' with rfl | rfl | rfl | rfl <;> rfl
    · have hk' : k = 0 ∨ k = 1 ∨ k = 2 ∨ k = 3 := by omega
      rcases hk' with rfl | rfl | rfl | rfl
      · exact (rd1_4 b0).congr fun i hi j hj => rfl
      · exact (rd1_4 b1).congr fun i hi j hj => rfl
      · exact (rd1_4 b2).congr fun i hi j hj => rfl
      · exact (rd1_4 b3).congr fun i hi j hj => rfl
  refine (eqRows28 (hr.ext e0) r4 (by omega) (by omega) (fun _ _ => by omega) fun _ _ => by omega).mono ?_
  rintro e w' ⟨rfl, he⟩
  exact ⟨ret_bool (by decide +kernel), e0.trans he⟩
theorem rdg_aw (W : World) : RdN ((W.alloc (.cells #[.int .i64 0, .int .i64 2, .int .i64 3] 3)).alloc (.cells #[.slice (some ⟨W.heap.size, 0, none⟩) 3 3] 22)) (some ⟨W.heap.size + 1, 0, none⟩) 1 (fun _ => 3) gT := by
  have b0 := (Blk.new W 3 #[.int .i64 0, .int .i64 2, .int .i64 3]).ext ((Ext.refl _).alloc (.cells #[.slice (some ⟨W.heap.size, 0, none⟩) 3 3] 22))
  have b1 : Blk ((W.alloc (.cells #[.int .i64 0, .int .i64 2, .int .i64 3] 3)).alloc (.cells #[.slice (some ⟨W.heap.size, 0, none⟩) 3 3] 22)) (W.heap.size + 1) 22 #[.slice (some ⟨W.heap.size, 0, none⟩) 3 3] := by
    have h := Blk.new (W.alloc (.cells #[.int .i64 0, .int .i64 2, .int .i64 3] 3)) 22 #[.slice (some ⟨W.heap.size, 0, none⟩) 3 3]
    simpa using h
  refine ⟨fun _ => some ⟨W.heap.size, 0, none⟩, fun _ => 3, fun _ => ⟨_, 0, rfl, fun k hk => ?_⟩, fun k hk => rd1_3 b0⟩
  obtain rfl : k = 0 := by omega
  exact b1.cell 0
theorem awake_any (w : World) : Calls Tryz.prog 18 #[] w fun e w' => e = .returned (.bool true) ∧ Ext w w' := by
  go_enter Tryz.func18, Tryz.ntmps18
  go_upto_region 2 with (first | (go_at_call 88; refine (three88 _).mono ?_; rintro e w1 ⟨p1, rfl, he1, hl1, hc1⟩; have E := hid he1; have HL := hid hl1; have HC := hid hc1; clear he1 hl1 hc1) | (go_at_call 40; refine (booked_aw HL.out HC.out).mono ?_; rintro e w2 ⟨A1, c1, rfl, he2, hp2⟩; have E := hid (E.out.trans he2); have HP := hid hp2; clear he2 hp2 HL HC))
  go_upto_region 3 with (first | (go_at_call 88; refine (three88 _).mono ?_; rintro e w3 ⟨p3, rfl, he3, hl3, -⟩; have E := hid (E.out.trans he3); have HP := hid (HP.out.ext he3); have HL := hid hl3; clear he3 hl3) | (go_at_call 26; refine (overdue_aw HL.out).mono ?_; rintro e w4 ⟨rfl, he4⟩; have E := hid (E.out.trans he4); have HP := hid (HP.out.ext he4); clear he4 HL))
  go_upto_region 4 with (first | (go_at_call 88; refine (three88 _).mono ?_; rintro e w5 ⟨p5, rfl, he5, hl5, -⟩; have E := hid (E.out.trans he5); have HP := hid (HP.out.ext he5); have HL := hid hl5; clear he5 hl5) | (go_at_call 27; refine (owed_aw HL.out).mono ?_; rintro e w6 ⟨A6, c6, rfl, he6, hd6⟩; have E := hid (E.out.trans he6); have HP := hid (HP.out.ext he6); have HD := hid hd6; clear he6 HL hd6))
  go_upto_region 5 with (go_at_call 32; refine (net_aw HD.out).mono ?_; rintro e w7 ⟨G, rfl, he7, hn7⟩; have E := hid (E.out.trans he7); have HP := hid (HP.out.ext he7); have HD := hid (HD.out.ext he7); have HN := hid hn7; clear he7 hn7)
  have e8 := (Ext.refl w7).alloc (.cells #[.int .i64 0, .int .i64 3, .int .i64 2, .int .i64 1] 3)
  go_upto_region 6 with (go_at_call 77; refine (cancel_aw (HD.out.ext e8) (rd1_4 (Blk.new w7 3 _)) (by omega)).mono ?_; rintro e w8 ⟨A8, c8, rfl, he8, hk8⟩; have he8 := e8.trans he8; have E := hid (E.out.trans he8); have HP := hid (HP.out.ext he8); have HD := hid (HD.out.ext he8); have HN := hid (HN.out.ext he8); have HK := hid hk8; clear he8 hk8)
  clear e8
  go_upto_region 7 with (go_at_call 59; refine (fewest_aw HD.out).mono ?_; rintro e w9 ⟨rfl, he9⟩; have E := hid (E.out.trans he9); have HP := hid (HP.out.ext he9); have HD := hid (HD.out.ext he9); have HN := hid (HN.out.ext he9); have HK := hid (HK.out.ext he9); clear he9)
  have e10 := ((Ext.refl w9).alloc (.cells #[.int .i64 0, .int .i64 2, .int .i64 3] 3)).alloc (.cells #[.slice (some ⟨w9.heap.size, 0, none⟩) 3 3] 22)
  go_upto_region 8 with (go_at_call 62; refine (shows_aw (HD.out.ext e10) (rdg_aw w9)).mono ?_; rintro e w10 ⟨rfl, he10⟩; have he10 := e10.trans he10; have E := hid (E.out.trans he10); have HP := hid (HP.out.ext he10); have HD := hid (HD.out.ext he10); have HN := hid (HN.out.ext he10); have HK := hid (HK.out.ext he10); clear he10)
  clear e10
  go_upto_region 9 with (first | (go_at_call 88; refine (three88 _).mono ?_; rintro e w11 ⟨p11, rfl, he11, hl11, -⟩; have E := hid (E.out.trans he11); have HP := hid (HP.out.ext he11); have HD := hid (HD.out.ext he11); have HN := hid (HN.out.ext he11); have HK := hid (HK.out.ext he11); have HL := hid hl11; clear he11 hl11) | (go_at_call 45; refine (paid_aw HL.out).mono ?_; rintro e w12 ⟨rfl, he12⟩; have E := hid (E.out.trans he12); have HP := hid (HP.out.ext he12); have HD := hid (HD.out.ext he12); have HN := hid (HN.out.ext he12); have HK := hid (HK.out.ext he12); clear he12 HL))
  go_wp2_with (first
    | (go_at_call 46; refine (eq46_aw HP.out).mono ?_; rintro e w13 ⟨rfl, he13⟩; have E := hid (E.out.trans he13); have HD := hid (HD.out.ext he13); have HN := hid (HN.out.ext he13); have HK := hid (HK.out.ext he13); clear he13)
    | (go_at_call 28; (fail_if_success (have := M1)); refine (eqD_aw HD.out).mono ?_; rintro e w14 ⟨rfl, he14⟩; have E := hid (E.out.trans he14); have M1 := hid he14; have HN := hid (HN.out.ext he14); have HK := hid (HK.out.ext he14); clear he14)
    | (go_at_call 34; refine (eq34_aw HN.out).mono ?_; rintro e w15 ⟨rfl, he15⟩; have E := hid (E.out.trans he15); have HK := hid (HK.out.ext he15); clear he15)
    | (go_at_call 28; refine (eqC_aw HK.out).mono ?_; rintro e w16 ⟨rfl, he16⟩; have E := hid (E.out.trans he16); clear he16))
  go_ret
  exact ⟨rfl, E.out⟩
end Go.Proofs.YtbceepjjdfpfmaaGreat
