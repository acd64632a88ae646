/- Walk of the closed statement about small watches. -/
import Derived.Test.YtkhjmedfhobebaaGreatAsked
namespace Go
open Go.RowKit
/-- A block of n integers. -/
def IntsB (w : World) (g n : Nat) : Prop := ∃ t C, Blk w g t C ∧ C.size = n ∧ ∀ i, i < n → ∃ z, C[i]? = some (Value.int .i64 z)
namespace IntsB
variable {w w' : World} {g n : Nat}
theorem of {t : TypeId} {C : Array Value} (h : Blk w g t C) (hn : C.size = n) (hz : ∀ i, i < n → ∃ z, C[i]? = some (Value.int .i64 z)) : IntsB w g n := ⟨t, C, h, hn, hz⟩
theorem ext (h : IntsB w g n) (e : Ext w w') : IntsB w' g n := by
 obtain ⟨t, C, hb, hn, hz⟩ := h
 exact ⟨t, C, hb.ext e, hn, hz⟩
theorem set_ (h : IntsB w g n) (c i : Nat) (z : Int) : IntsB (w.setCell ⟨c, i, none⟩ (.int .i64 z)) g n := by
 obtain ⟨t, C, hb, hn, hz⟩ := h
 by_cases hc : g = c
 ·subst hc
  refine ⟨t, _, hb.set_ i _, by rw [Array.size_setIfInBounds]; exact hn, fun j hj => ?_⟩
  by_cases hi : i = j
  ·subst hi
   exact ⟨z, Array.getElem?_setIfInBounds_self_of_lt (by omega)⟩
  ·rw [Array.getElem?_setIfInBounds_ne hi]
   exact hz j hj
 ·exact ⟨t, C, hb.far hc _, hn, hz⟩
theorem rd {m c : Nat} (h : IntsB w g (m * c)) : ∃ f, Rd w (some ⟨g, 0, none⟩) m c f := by
 obtain ⟨t, C, hb, hn, hz⟩ := h
 refine ⟨fun k j => match C[k * c + j]? with | some (.int .i64 z) => z | _ => 0, fun _ => ⟨g, 0, rfl, fun k hk j hj => ?_⟩⟩
 have h2 : k * c + j < m * c := by
  have := Nat.mul_le_mul_right c (Nat.succ_le_of_lt hk)
  simp only [Nat.succ_eq_add_one, Nat.add_mul] at this
  omega
 obtain ⟨z, hz⟩ := hz _ h2
 rw [show 0 + k * c + j = k * c + j by omega, hb.cell, hz]
 simp only [hz]
theorem lit {t : TypeId} {C : Array Value} (h : Blk w g t C) (hz : C.toList.all (fun v => match v with | .int .i64 _ => true | _ => false) = true) : IntsB w g C.size :=
 ⟨t, C, h, rfl, fun i hi => by
  have h1 := List.all_eq_true.1 hz C[i] (by simp)
  rw [Array.getElem?_eq_getElem hi]
  split at h1
  ·exact ⟨_, by rename_i e; rw [e]⟩
  ·simp at h1⟩
theorem one (h : IntsB w g 1) : ∃ t a, Blk w g t #[.int .i64 a] := by
 obtain ⟨t, C, hb, hn, hz⟩ := h
 obtain ⟨a, ha⟩ := hz 0 (by omega)
 refine ⟨t, a, ?_⟩
 rw [show (#[.int .i64 a] : Array Value) = C from ?_]
 ·exact hb
 ·apply Array.ext_getElem?
  intro i
  match i with
  | 0 => simp [ha]
  | i + 1 => rw [Array.getElem?_eq_none (by simp), Array.getElem?_eq_none (by omega)]
theorem two (h : IntsB w g 2) : ∃ t a b, Blk w g t #[.int .i64 a, .int .i64 b] := by
 obtain ⟨t, C, hb, hn, hz⟩ := h
 obtain ⟨a, ha⟩ := hz 0 (by omega)
 obtain ⟨b, hb'⟩ := hz 1 (by omega)
 refine ⟨t, a, b, ?_⟩
 rw [show (#[.int .i64 a, .int .i64 b] : Array Value) = C from ?_]
 ·exact hb
 ·apply Array.ext_getElem?
  intro i
  match i with
  | 0 => simp [ha]
  | 1 => simp [hb']
  | i + 2 => rw [Array.getElem?_eq_none (by simp), Array.getElem?_eq_none (by omega)]
theorem three (h : IntsB w g 3) : ∃ t a b c, Blk w g t #[.int .i64 a, .int .i64 b, .int .i64 c] := by
 obtain ⟨t, C, hb, hn, hz⟩ := h
 obtain ⟨a, ha⟩ := hz 0 (by omega)
 obtain ⟨b, hb'⟩ := hz 1 (by omega)
 obtain ⟨c, hc⟩ := hz 2 (by omega)
 refine ⟨t, a, b, c, ?_⟩
 rw [show (#[.int .i64 a, .int .i64 b, .int .i64 c] : Array Value) = C from ?_]
 ·exact hb
 ·apply Array.ext_getElem?
  intro i
  match i with
  | 0 => simp [ha]
  | 1 => simp [hb']
  | 2 => simp [hc]
  | i + 3 => rw [Array.getElem?_eq_none (by simp), Array.getElem?_eq_none (by omega)]
end IntsB
/-- A block that begins with three integers. -/
theorem Blk.set3 {w : World} {g : Nat} {t : TypeId} {a b c : Int} {s1 s2 s3 : Value} (h : Blk w g t #[.int .i64 a, .int .i64 b, .int .i64 c, s1, s2, s3]) {b' i : Nat} (z : Int) (hi : b' ≠ g ∨ i < 3) :
  ∃ a b c : Int, Blk (w.setCell ⟨b', i, none⟩ (.int .i64 z)) g t #[.int .i64 a, .int .i64 b, .int .i64 c, s1, s2, s3] := by
 by_cases hg : b' = g
 ·subst hg
  match i, (by simpa using hi : i < 3) with
  | 0, _ => exact ⟨z, b, c, h.set_ 0 _⟩
  | 1, _ => exact ⟨a, z, c, h.set_ 1 _⟩
  | 2, _ => exact ⟨a, b, z, h.set_ 2 _⟩
 ·exact ⟨a, b, c, h.far (fun e => hg e.symm) _⟩
end Go
namespace Go.Proofs.YtkhjmedfhobebaaGreat
open Go.RowKit HandSpec
set_option maxHeartbeats 25600000
set_option maxRecDepth 100000
/-- The counts and the bookings of the examples. -/
def c12 : Array Value := #[.int .i64 0, .int .i64 100, .int .i64 102, .int .i64 6, .int .i64 90, .int .i64 92, .int .i64 12, .int .i64 80, .int .i64 84, .int .i64 20, .int .i64 70, .int .i64 71]
def b4 : Array Value := #[.int .i64 4, .int .i64 (-2), .int .i64 15, .int .i64 10]
def s9 (u : Int) : Array Value := #[.int .i64 0, .int .i64 0, .int .i64 6, .int .i64 1, .int .i64 5, .int .i64 u, .int .i64 2, .int .i64 14, .int .i64 20]
theorem all111s (u : Int) (w : World) : Calls Tryz.prog 111 #[.int .i64 u] w fun e w' => ∃ g, e = .returned (.slice (some ⟨g, 0, none⟩) 3 3) ∧ Ext w w' ∧ w.heap.size ≤ g ∧ Blk w' g 114 (s9 u) := by
 go_enter Tryz.func111, Tryz.ntmps111
 go_wp2
 go_ret
 exact ⟨_, rfl, (Ext.refl _).alloc _, Nat.le_refl _, Blk.new _ _ _⟩
theorem four110s {w : World} {A : Option Addr} {n cap : Nat} :
  Calls Tryz.prog 110 #[.slice A n cap] w fun e w' => ∃ g1 g2, e = .returned (.agg #[.int .i64 24, .int .i64 1, .int .i64 3, .slice (some ⟨g1, 0, none⟩) 4 4, .slice (some ⟨g2, 0, none⟩) 2 2, .slice A n cap]) ∧ Ext w w' ∧ w.heap.size ≤ g1 ∧ w.heap.size ≤ g2 ∧ g1 ≠ g2 ∧ Blk w' g1 79 c12 ∧ Blk w' g2 119 b4 := by
 go_enter Tryz.func110, Tryz.ntmps110
 go_wp2
 refine wp_bodyPost_later (fun w1 hw1 => ?_)
 obtain ⟨he, b1, b2, b3⟩ := newB3' hw1
 have k1 := b1.cell
 have k1l := b1.lt
 refine bodyPost_ret (v := .agg #[.int .i64 24, .int .i64 1, .int .i64 3, .slice (some ⟨w.heap.size + 1, 0, none⟩) 4 4, .slice (some ⟨w.heap.size + 1 + 1, 0, none⟩) 2 2, .slice A n cap]) (by simp [results, Tryz.results110, go_sem, k1]) rfl ?_
 exact ⟨_, _, rfl, he, by omega, by omega, by omega, b2, b3⟩
theorem four_is {w : World} {g1 g2 : Nat} {A : Option Addr} {n cap : Nat} {g : Nat → Nat → Int} (h1 : Blk w g1 79 c12) (h2 : Blk w g2 119 b4) (h3 : Rd w A n 3 g) : IsW w (.agg #[.int .i64 24, .int .i64 1, .int .i64 3, .slice (some ⟨g1, 0, none⟩) 4 4, .slice (some ⟨g2, 0, none⟩) 2 2, .slice A n cap]) (fourW n g) :=
 ⟨_, _, _, _, _, _, rfl, Rd.of_blk (L := [[0, 100, 102], [6, 90, 92], [12, 80, 84], [20, 70, 71]]) h1 (by simp [cellsOf, c12]) (by simp), Rd.of_blk (L := [[4, -2], [15, 10]]) h2 (by simp [cellsOf, b4]) (by simp), h3⟩
/-- The 23 numbers that are changed. -/
def adr (g4 g1 g2 g0 b5 b6 b7 b8 h1 h2 : Nat) : List (Nat × Nat) := [(g4, 0), (g4, 1), (g4, 2), (g1, 3), (g1, 1), (g1, 8), (g1, 10), (g2, 0), (g2, 3), (g0, 0), (g0, 4), (g0, 5), (g0, 7), (b5, 0), (b5, 1), (b6, 0), (b6, 1), (b7, 0), (b8, 0), (h1, 0), (h1, 1), (h2, 0), (h2, 1)]
def ptrs (g4 g1 g2 g0 b5 b6 b7 b8 h1 h2 : Nat) : Array Value := ((adr g4 g1 g2 g0 b5 b6 b7 b8 h1 h2).map fun p => Value.pointer (some ⟨p.1, p.2, none⟩)).toArray
def Ptrs (g4 g1 g2 g0 b5 b6 b7 b8 h1 h2 : Nat) : MSpec := fun v lo hi w => v = .slice (some ⟨lo, 0, none⟩) 23 23 ∧ hi = lo + 1 ∧ Blk w lo 162 (ptrs g4 g1 g2 g0 b5 b6 b7 b8 h1 h2)
theorem newB6 {w w1 : World} {A B C D E F : Array Value} {t1 t2 t3 t4 t5 t6 : TypeId} (h : Ext ((((((w.alloc (.cells A t1)).alloc (.cells B t2)).alloc (.cells C t3)).alloc (.cells D t4)).alloc (.cells E t5)).alloc (.cells F t6)) w1) :
  Ext w w1 ∧ Blk w1 w.heap.size t1 A ∧ Blk w1 (w.heap.size + 1) t2 B ∧ Blk w1 (w.heap.size + 2) t3 C ∧ Blk w1 (w.heap.size + 3) t4 D ∧ Blk w1 (w.heap.size + 4) t5 E ∧ Blk w1 (w.heap.size + 5) t6 F := by
 obtain ⟨h1, h2, h3, h4⟩ := newB3' h
 obtain ⟨h5, h6, h7, h8⟩ := newB3' h1
 exact ⟨h5, h6, h7, h8, by simpa using h2, by simpa using h3, by simpa using h4⟩
theorem adr_good {w : World} {gw g1 g2 g0 b5 b6 b7 b8 h1 h2 n : Nat} {t0 t1 t2 t3 t4 t5 t6 t7 t8 t9 : TypeId} {x0 x1 x2 : Int} {s1 s2 s3 : Value} (hw : Blk w gw t0 #[.int .i64 x0, .int .i64 x1, .int .i64 x2, s1, s2, s3]) (B1 : Blk w g1 t1 c12) (B2 : Blk w g2 t2 b4) (B0 : Blk w g0 t3 (s9 12))
  (A3 : Blk w b5 t4 #[.int .i64 9, .int .i64 85, .int .i64 86]) (A4 : Blk w b6 t5 #[.int .i64 1, .int .i64 3]) (A5 : Blk w b7 t6 #[.int .i64 1]) (A6 : Blk w b8 t7 #[.int .i64 2]) (A1 : Blk w h1 t8 #[.int .i64 0, .int .i64 2]) (A2 : Blk w h2 t9 #[.int .i64 2, .int .i64 3])
  (d0 : g0 ≠ gw ∧ g1 ≠ gw ∧ g2 ≠ gw) (d1 : b5 ≠ gw ∧ b6 ≠ gw ∧ b7 ≠ gw ∧ b8 ≠ gw ∧ h1 ≠ gw ∧ h2 ≠ gw) (d2 : n ≤ gw ∧ n ≤ g0 ∧ n ≤ g1 ∧ n ≤ g2 ∧ n ≤ b5 ∧ n ≤ b6 ∧ n ≤ b7 ∧ n ≤ b8 ∧ n ≤ h1 ∧ n ≤ h2) :
  ∀ p ∈ adr gw g1 g2 g0 b5 b6 b7 b8 h1 h2, (p.1 ≠ gw ∨ p.2 < 3) ∧ n ≤ p.1 ∧ p.1 < w.heap.size ∧ w.frozen? ⟨p.1, p.2, none⟩ = false ∧ ∃ z, w.cell? ⟨p.1, p.2, none⟩ = some (.int .i64 z) := by
 obtain ⟨d01, d02, d03⟩ := d0
 obtain ⟨d11, d12, d13, d14, d15, d16⟩ := d1
 obtain ⟨n0, n1, n2, n3, n4, n5, n6, n7, n8, n9⟩ := d2
 simp only [adr, List.forall_mem_cons]
 exact ⟨⟨.inr (by decide), n0, hw.lt, hw.frozen _, _, (hw.cell 0).trans rfl⟩, ⟨.inr (by decide), n0, hw.lt, hw.frozen _, _, (hw.cell 1).trans rfl⟩, ⟨.inr (by decide), n0, hw.lt, hw.frozen _, _, (hw.cell 2).trans rfl⟩,
  ⟨.inl d02, n2, B1.lt, B1.frozen _, _, (B1.cell 3).trans rfl⟩, ⟨.inl d02, n2, B1.lt, B1.frozen _, _, (B1.cell 1).trans rfl⟩, ⟨.inl d02, n2, B1.lt, B1.frozen _, _, (B1.cell 8).trans rfl⟩, ⟨.inl d02, n2, B1.lt, B1.frozen _, _, (B1.cell 10).trans rfl⟩,
  ⟨.inl d03, n3, B2.lt, B2.frozen _, _, (B2.cell 0).trans rfl⟩, ⟨.inl d03, n3, B2.lt, B2.frozen _, _, (B2.cell 3).trans rfl⟩,
  ⟨.inl d01, n1, B0.lt, B0.frozen _, _, (B0.cell 0).trans rfl⟩, ⟨.inl d01, n1, B0.lt, B0.frozen _, _, (B0.cell 4).trans rfl⟩, ⟨.inl d01, n1, B0.lt, B0.frozen _, _, (B0.cell 5).trans rfl⟩, ⟨.inl d01, n1, B0.lt, B0.frozen _, _, (B0.cell 7).trans rfl⟩,
  ⟨.inl d11, n4, A3.lt, A3.frozen _, _, (A3.cell 0).trans rfl⟩, ⟨.inl d11, n4, A3.lt, A3.frozen _, _, (A3.cell 1).trans rfl⟩, ⟨.inl d12, n5, A4.lt, A4.frozen _, _, (A4.cell 0).trans rfl⟩, ⟨.inl d12, n5, A4.lt, A4.frozen _, _, (A4.cell 1).trans rfl⟩,
  ⟨.inl d13, n6, A5.lt, A5.frozen _, _, (A5.cell 0).trans rfl⟩, ⟨.inl d14, n7, A6.lt, A6.frozen _, _, (A6.cell 0).trans rfl⟩, ⟨.inl d15, n8, A1.lt, A1.frozen _, _, (A1.cell 0).trans rfl⟩, ⟨.inl d15, n8, A1.lt, A1.frozen _, _, (A1.cell 1).trans rfl⟩,
  ⟨.inl d16, n9, A2.lt, A2.frozen _, _, (A2.cell 0).trans rfl⟩, ⟨.inl d16, n9, A2.lt, A2.frozen _, _, (A2.cell 1).trans rfl⟩, fun _ h => by simp at h⟩
theorem row3 {w : World} {g : Nat} {t : TypeId} {a b c : Int} (h : Blk w g t #[.int .i64 a, .int .i64 b, .int .i64 c]) : ∀ i, w.cell? ⟨g, i, none⟩ = (cellsOf [[a, b, c]])[i]? := fun i => by rw [h.cell]; simp [cellsOf]
theorem row2 {w : World} {g : Nat} {t : TypeId} {a b : Int} (h : Blk w g t #[.int .i64 a, .int .i64 b]) : ∀ i, w.cell? ⟨g, i, none⟩ = (cellsOf [[a, b]])[i]? := fun i => by rw [h.cell]; simp [cellsOf]
theorem OwnR.apart {w : World} {B B' : Nat} {e e' : TypeId} {c c' : Nat} {v v' : Value} {l l' : List (List Int)} (h : OwnR w B e c v l) (h' : OwnR w B' e' c' v' l') (hne : e ≠ e') (g : Nat) (hg : v.ownBlock = some g) : some g ≠ v'.ownBlock := fun hg' => by
 rcases h.2.2 with ⟨rfl, _⟩ | ⟨a, cap, cur, rfl, _, hh, _⟩
 ·cases hg
 ·rcases h'.2.2 with ⟨rfl, _⟩ | ⟨b, cap', cur', rfl, _, hh', _⟩
  ·cases hg'
  ·simp only [Value.ownBlock, Option.some.injEq] at hg hg'
   subst hg
   rw [hg', hh'] at hh
   simp at hh
   exact hne hh.2.symm
theorem proof_own {x : WD} {w : World} {v : Value} (hv : IsW w v x) (h1 : x.cn ≤ 1000) (h2 : x.bn ≤ 1000) (h3 : x.sn ≤ 1000) (n : Int) (h0 : 0 ≤ n) (hh : n < x.hands) (hb : x.hands ≤ 4) :
  Calls Tryz.prog 26 #[v, .int .i64 n] w fun e w' => ∃ u L z, e = .returned (.tuple #[u, .int .i64 z]) ∧ Ext w w' ∧ OwnR w' w.heap.size 51 2 u L ∧ L.length ≤ 1000 := by
 obtain ⟨h, rfl⟩ := Int.eq_ofNat_of_zero_le h0
 have hbad : badH x (h : Int) = false := by
  unfold badH
  rw [IntWalk.wrap64_in _ (by omega)]
  simp [inB]
  omega
 by_cases he : P.toldE x false = 0
 ·refine (proof_ok26 hv h1 h2 h3 hh he).mono ?_
  rintro e w' ⟨u, l', rfl, he', hp, -, ho⟩
  refine ⟨u, _, _, rfl, he', ho, ?_⟩
  have q1 := hp.length_eq
  have q2 := P.chain_length (P.best x (2 ^ h)) x.cn (x.cn - 1)
  rw [rows2_length, q1]
  unfold P.proof
  split
  ·simp
  ·omega
 ·refine (proof_err hv h1 h2 h3 (h : Int) (by rw [hbad]; exact he)).mono ?_
  rintro e w' ⟨rfl, he⟩
  exact ⟨_, [], _, rfl, he, OwnR.nil, by simp⟩
theorem ownR_rd {w : World} {B : Nat} {e : TypeId} {c n cap : Nat} {A : Option Addr} {l : List (List Int)} (h : OwnR w B e c (.slice A n cap) l) : Rd w A n c (rowsAt l) := by
 obtain ⟨A', cap', hv, hr⟩ := h.slR
 obtain ⟨rfl, rfl, -⟩ : A = A' ∧ n = l.length ∧ cap = cap' := by simpa using hv
 exact hr
/-- A new row of these cells. -/
def RowN (n : Nat) (C : Array Value) : MSpec := fun v lo hi w => v = .slice (some ⟨lo, 0, none⟩) n n ∧ hi = lo + 1 ∧ ∃ t, Blk w lo t C
theorem RowN.ext {n : Nat} {C : Array Value} {v : Value} {lo hi : Nat} {w w' : World} (e : Ext w w') (h : RowN n C v lo hi w) : RowN n C v lo hi w' := ⟨h.1, h.2.1, h.2.2.imp fun _ b => b.ext e⟩
def RowI : MSpec := fun v lo hi w => ∃ a b c : Int, RowN 1 #[.int .i64 a, .int .i64 b, .int .i64 c] v lo hi w
def S19 : MSpec := fun v lo hi w => ∃ l16 l17 l18, v = .slice (some ⟨lo, 0, none⟩) 4 4 ∧ hi = lo + 1 ∧ (∃ t, Blk w lo t #[.slice none 0 0, .slice (some ⟨l16, 0, none⟩) 1 1, .slice (some ⟨l17, 0, none⟩) 2 2, .slice (some ⟨l18, 0, none⟩) 2 2]) ∧ (∃ t, Blk w l16 t #[.int .i64 0]) ∧ (∃ t, Blk w l17 t #[.int .i64 1, .int .i64 0]) ∧ ∃ t, Blk w l18 t #[.int .i64 0, .int .i64 0]
def S23 : MSpec := fun v _ _ w => ∃ A n cap f, v = .slice A n cap ∧ Rd w A n 1 f
theorem S19.ext {v : Value} {lo hi : Nat} {w w' : World} (e : Ext w w') (h : S19 v lo hi w) : S19 v lo hi w' := by
 obtain ⟨a, b, c, h1, h2, h3, h4, h5, h6⟩ := h
 exact ⟨a, b, c, h1, h2, h3.imp fun _ q => q.ext e, h4.imp fun _ q => q.ext e, h5.imp fun _ q => q.ext e, h6.imp fun _ q => q.ext e⟩
theorem S23.ext {v : Value} {lo hi : Nat} {w w' : World} (e : Ext w w') (h : S23 v lo hi w) : S23 v lo hi w' := by
 obtain ⟨a, b, c, f, h1, h2⟩ := h
 exact ⟨a, b, c, f, h1, h2.ext e⟩
def rowsC (j : Nat) : List (List Int) := (List.range j).map fun i : Nat => [(i : Int), 50 - 2 * (i : Int), 52 - (i : Int)]
def rowsB (j : Nat) : List (List Int) := (List.range j).map fun i : Nat => [(i : Int), 1]
def rowsS (j : Nat) : List (List Int) := (List.range j).map fun i : Nat => [(i : Int) % 3, (i : Int), (i : Int) + 3]
theorem rowsC_succ (j : Nat) : rowsC (j + 1) = rowsC j ++ [[(j : Int), 50 - 2 * (j : Int), 52 - (j : Int)]] := by simp [rowsC, List.range_succ]
theorem rowsB_succ (j : Nat) : rowsB (j + 1) = rowsB j ++ [[(j : Int), 1]] := by simp [rowsB, List.range_succ]
theorem rowsS_succ (j : Nat) : rowsS (j + 1) = rowsS j ++ [[(j : Int) % 3, (j : Int), (j : Int) + 3]] := by simp [rowsS, List.range_succ]
theorem rowsC_length (j : Nat) : (rowsC j).length = j := by simp [rowsC]
theorem rowsB_length (j : Nat) : (rowsB j).length = j := by simp [rowsB]
theorem rowsS_length (j : Nat) : (rowsS j).length = j := by simp [rowsS]
/-- Three watches, to which rows are appended. -/
structure T3 (w0 w2 wr : World) (gb : Nat) (a1 a2 b1 b2 c1 c2 s1 s2 s3 : Value) (j1 j2 j3 : Nat) : Prop where
 x1 : Blk wr gb 26 #[.int .i64 24, .int .i64 1, .int .i64 3, s1, a1, a2]
 x2 : Blk wr (gb + 1) 26 #[.int .i64 24, .int .i64 1, .int .i64 3, b1, s2, b2]
 x3 : Blk wr (gb + 2) 26 #[.int .i64 24, .int .i64 1, .int .i64 3, c1, c2, s3]
 o1 : OwnR wr (gb + 3) 79 3 s1 (rowsC j1)
 o2 : OwnR wr (gb + 3) 119 2 s2 (rowsB j2)
 o3 : OwnR wr (gb + 3) 114 3 s3 (rowsS j3)
 old : ∀ b, b < gb → wr.heap[b]? = w2.heap[b]?
 e : Ext w0 wr
section
variable {w0 w2 wr w' : World} {gb : Nat} {a1 a2 b1 b2 c1 c2 s1 s2 s3 s' : Value} {j1 j2 j3 : Nat}
theorem T3.ext (h : T3 w0 w2 wr gb a1 a2 b1 b2 c1 c2 s1 s2 s3 j1 j2 j3) (he : Ext wr w') : T3 w0 w2 w' gb a1 a2 b1 b2 c1 c2 s1 s2 s3 j1 j2 j3 :=
 ⟨h.x1.ext he, h.x2.ext he, h.x3.ext he, h.o1.ext he, h.o2.ext he, h.o3.ext he, fun b hb => (he.block (Nat.lt_trans hb h.x1.lt)).trans (h.old b hb), h.e.trans he⟩
theorem T3.put1 (h : T3 w0 w2 wr gb a1 a2 b1 b2 c1 c2 s1 s2 s3 j1 j2 j3) (h0 : w0.heap.size ≤ gb) (hg : wr.grownBy w' s1.ownBlock) (ho : OwnR w' (gb + 3) 79 3 s' (rowsC j1 ++ [[(j1 : Int), 50 - 2 * (j1 : Int), 52 - (j1 : Int)]])) : T3 w0 w2 (w'.setCell ⟨gb, 3, none⟩ s') gb a1 a2 b1 b2 c1 c2 s' s2 s3 (j1 + 1) j2 j3 :=
 have hb : ∀ g, s1.ownBlock = some g → gb + 3 ≤ g := fun _ hg => h.o1.block hg
 have nx : ∀ i, i < 3 → some (gb + i) ≠ s1.ownBlock := fun i hi e => by have := hb _ e.symm; omega
 ⟨(h.x1.grown hg (nx 0 (by omega))).set_ 3 _, (h.x2.grown hg (nx 1 (by omega))).far (show gb + 1 ≠ gb by omega) _, (h.x3.grown hg (nx 2 (by omega))).far (show gb + 2 ≠ gb by omega) _,
  (show OwnR w' (gb + 3) 79 3 s' (rowsC (j1 + 1)) by rw [rowsC_succ]; exact ho).far (show gb < gb + 3 by omega) _, (h.o2.grownBy_other hg (OwnR.apart h.o2 h.o1 (by decide))).far (show gb < gb + 3 by omega) _, (h.o3.grownBy_other hg (OwnR.apart h.o3 h.o1 (by decide))).far (show gb < gb + 3 by omega) _,
  fun b hb' => (Below.heap_setCell w' ⟨gb, 3, none⟩ s' b (show b ≠ gb by omega)).trans ((hg.block b (Nat.lt_trans hb' h.x1.lt) (fun e => by have := hb _ e.symm; omega)).trans (h.old b hb')),
  (h.e.grown hg (fun k hk => by have := hb _ hk; omega)).setCell _ h0⟩
theorem T3.put2 (h : T3 w0 w2 wr gb a1 a2 b1 b2 c1 c2 s1 s2 s3 j1 j2 j3) (h0 : w0.heap.size ≤ gb) (hg : wr.grownBy w' s2.ownBlock) (ho : OwnR w' (gb + 3) 119 2 s' (rowsB j2 ++ [[(j2 : Int), 1]])) : T3 w0 w2 (w'.setCell ⟨gb + 1, 4, none⟩ s') gb a1 a2 b1 b2 c1 c2 s1 s' s3 j1 (j2 + 1) j3 :=
 have hb : ∀ g, s2.ownBlock = some g → gb + 3 ≤ g := fun _ hg => h.o2.block hg
 have nx : ∀ i, i < 3 → some (gb + i) ≠ s2.ownBlock := fun i hi e => by have := hb _ e.symm; omega
 ⟨(h.x1.grown hg (nx 0 (by omega))).far (show gb ≠ gb + 1 by omega) _, (h.x2.grown hg (nx 1 (by omega))).set_ 4 _, (h.x3.grown hg (nx 2 (by omega))).far (show gb + 2 ≠ gb + 1 by omega) _,
  (h.o1.grownBy_other hg (OwnR.apart h.o1 h.o2 (by decide))).far (show gb + 1 < gb + 3 by omega) _, (show OwnR w' (gb + 3) 119 2 s' (rowsB (j2 + 1)) by rw [rowsB_succ]; exact ho).far (show gb + 1 < gb + 3 by omega) _, (h.o3.grownBy_other hg (OwnR.apart h.o3 h.o2 (by decide))).far (show gb + 1 < gb + 3 by omega) _,
  fun b hb' => (Below.heap_setCell w' ⟨gb + 1, 4, none⟩ s' b (show b ≠ gb + 1 by omega)).trans ((hg.block b (Nat.lt_trans hb' h.x1.lt) (fun e => by have := hb _ e.symm; omega)).trans (h.old b hb')),
  (h.e.grown hg (fun k hk => by have := hb _ hk; omega)).setCell _ (show w0.heap.size ≤ gb + 1 by omega)⟩
theorem T3.put3 (h : T3 w0 w2 wr gb a1 a2 b1 b2 c1 c2 s1 s2 s3 j1 j2 j3) (h0 : w0.heap.size ≤ gb) (hg : wr.grownBy w' s3.ownBlock) (ho : OwnR w' (gb + 3) 114 3 s' (rowsS j3 ++ [[(j3 : Int) % 3, (j3 : Int), (j3 : Int) + 3]])) : T3 w0 w2 (w'.setCell ⟨gb + 2, 5, none⟩ s') gb a1 a2 b1 b2 c1 c2 s1 s2 s' j1 j2 (j3 + 1) :=
 have hb : ∀ g, s3.ownBlock = some g → gb + 3 ≤ g := fun _ hg => h.o3.block hg
 have nx : ∀ i, i < 3 → some (gb + i) ≠ s3.ownBlock := fun i hi e => by have := hb _ e.symm; omega
 ⟨(h.x1.grown hg (nx 0 (by omega))).far (show gb ≠ gb + 2 by omega) _, (h.x2.grown hg (nx 1 (by omega))).far (show gb + 1 ≠ gb + 2 by omega) _, (h.x3.grown hg (nx 2 (by omega))).set_ 5 _,
  (h.o1.grownBy_other hg (OwnR.apart h.o1 h.o3 (by decide))).far (show gb + 2 < gb + 3 by omega) _, (h.o2.grownBy_other hg (OwnR.apart h.o2 h.o3 (by decide))).far (show gb + 2 < gb + 3 by omega) _, (show OwnR w' (gb + 3) 114 3 s' (rowsS (j3 + 1)) by rw [rowsS_succ]; exact ho).far (show gb + 2 < gb + 3 by omega) _,
  fun b hb' => (Below.heap_setCell w' ⟨gb + 2, 5, none⟩ s' b (show b ≠ gb + 2 by omega)).trans ((hg.block b (Nat.lt_trans hb' h.x1.lt) (fun e => by have := hb _ e.symm; omega)).trans (h.old b hb')),
  (h.e.grown hg (fun k hk => by have := hb _ hk; omega)).setCell _ (show w0.heap.size ≤ gb + 2 by omega)⟩
theorem T3.mid (h : T3 w0 w2 wr gb a1 a2 b1 b2 c1 c2 s1 s2 s3 j1 j2 j3) {row : Option Nat} (hg : wr.grownBy w' row) (hb : ∀ g, row = some g → gb + 3 ≤ g) : Blk w' gb 26 #[.int .i64 24, .int .i64 1, .int .i64 3, s1, a1, a2] ∧ Blk w' (gb + 1) 26 #[.int .i64 24, .int .i64 1, .int .i64 3, b1, s2, b2] ∧ Blk w' (gb + 2) 26 #[.int .i64 24, .int .i64 1, .int .i64 3, c1, c2, s3] :=
 ⟨h.x1.grown hg (fun e => by have := hb _ e.symm; omega), h.x2.grown hg (fun e => by have := hb _ e.symm; omega), h.x3.grown hg (fun e => by have := hb _ e.symm; omega)⟩
end
def xA (n : Nat) : WD := { hours := 24, allow := 1, hands := 3, cn := n, bn := 2, sn := 3, c := rowsAt (rowsC n), b := rowsAt [[4, -2], [15, 10]], s := rowsAt (allS 14) }
def xB (n : Nat) : WD := { hours := 24, allow := 1, hands := 3, cn := 4, bn := n, sn := 3, c := rowsAt [[0, 100, 102], [6, 90, 92], [12, 80, 84], [20, 70, 71]], b := rowsAt (rowsB n), s := rowsAt (allS 14) }
def xC (n : Nat) : WD := { hours := 24, allow := 1, hands := 3, cn := 4, bn := 2, sn := n, c := rowsAt [[0, 100, 102], [6, 90, 92], [12, 80, 84], [20, 70, 71]], b := rowsAt [[4, -2], [15, 10]], s := rowsAt (rowsS n) }
theorem chkA : ∀ n, n < 15 → decide (P.chk (xA n) = 0) = (decide (0 < n) && decide (n < 9)) := by decide +kernel
theorem chkB : ∀ n, n < 15 → decide (P.chk (xB n) = 0) = decide (n < 11) := by decide +kernel
theorem chkC : ∀ n, n < 15 → decide (P.chk (xC n) = 0) = decide (n < 13) := by decide +kernel
theorem rd12 {w : World} {g : Nat} {t : TypeId} (h : Blk w g t c12) : Rd w (some ⟨g, 0, none⟩) 4 3 (rowsAt [[0, 100, 102], [6, 90, 92], [12, 80, 84], [20, 70, 71]]) := Rd.of_blk (L := [[0, 100, 102], [6, 90, 92], [12, 80, 84], [20, 70, 71]]) h (by simp [cellsOf, c12]) (by simp)
theorem rd4 {w : World} {g : Nat} {t : TypeId} (h : Blk w g t b4) : Rd w (some ⟨g, 0, none⟩) 2 2 (rowsAt [[4, -2], [15, 10]]) := Rd.of_blk (L := [[4, -2], [15, 10]]) h (by simp [cellsOf, b4]) (by simp)
theorem rd9 {w : World} {g : Nat} {t : TypeId} (h : Blk w g t (s9 14)) : Rd w (some ⟨g, 0, none⟩) 3 3 (rowsAt (allS 14)) := Rd.of_blk (L := allS 14) h (by simp [cellsOf, allS, s9]) (by simp [allS])
theorem small16 (w : World) : Calls Tryz.prog 16 #[] w fun e w' => e = .returned (.bool true) ∧ Ext w w' := by
 go_enter Tryz.func16, Tryz.ntmps16
 go_upto_region 2 with fail
 refine wp_later fun w0 hw0 => ?_
 obtain ⟨E0, bV⟩ := hw0.newB
 clear hw0
 have BV := hid bV
 clear bV
 have hVl := BV.out.lt
 go_loopw [30] (fun i wr => ∃ k : Nat, k ≤ 32 ∧ i = .int .i64 (k : Int) ∧ Ext w0 wr) (fun i _ => 32 - (intOf i).toNat)
 case atStart => exact ⟨0, by omega, rfl, Ext.refl _⟩
 case round =>
  obtain ⟨k, hk, rfl, he⟩ := hrel
  by_cases hlt : k < 32
  ·obtain ⟨va, hva⟩ : ∃ va : Int, wr.cell? ⟨w.heap.size, k, none⟩ = some (.int .i64 va) := by
    rw [(BV.out.ext he).cell]
    match k, hlt with
    | 0, _ | 1, _ | 2, _ | 3, _ | 4, _ | 5, _ | 6, _ | 7, _ | 8, _ | 9, _ | 10, _ | 11, _ | 12, _ | 13, _ | 14, _ | 15, _ | 16, _ | 17, _ | 18, _ | 19, _ | 20, _ | 21, _ | 22, _ | 23, _ | 24, _ | 25, _ | 26, _ | 27, _ | 28, _ | 29, _ | 30, _ | 31, _ => exact ⟨_, rfl⟩
    | k + 32, h => exact absurd h (by omega)
   have hvl := (BV.out.ext he).lt
   go_upto_region 5 with fail
   have hdec : decide ((k : Int) < 32) = true := decide_eq_true (by omega)
   simp only [hdec]
   go_loopw [34] (fun i wr => ∃ j : Nat, j ≤ 23 ∧ i = .int .i64 (j : Int) ∧ Ext w0 wr) (fun i _ => 23 - (intOf i).toNat)
   case atStart => exact ⟨0, by omega, rfl, he⟩
   case round =>
    clear he hva hvl
    obtain ⟨j, hj, rfl, he⟩ := hrel
    by_cases hlj : j < 23
    ·go_upto_region 8 with (first
      | (go_at_call 111; with_reducible refine (all111s 12 _).mono ?_; rintro e wa ⟨g0, rfl, hea, hg0, hB0⟩)
      | (go_at_call 110; with_reducible refine four110s.mono ?_; rintro e wb ⟨g1, g2, rfl, heb, hg1, hg2, hg12, hB1, hB2⟩))
     refine wp_later fun w1 hw1 => ?_
     obtain ⟨E1, b4⟩ := hw1.newB
     clear hw1
     obtain ⟨gw, hgw⟩ : ∃ gw, gw = wb.heap.size := ⟨_, rfl⟩
     rw [← hgw] at b4 ⊢
     have hs1 := b4.lt
     have B0 := hid ((hB0.ext heb).ext E1)
     have B1 := hid (hB1.ext E1)
     have B2 := hid (hB2.ext E1)
     have B4 := hid b4
     have hea2 := hea.size
     have heb2 := heb.size
     have e1 : Ext wr w1 := (hea.trans heb).trans E1
     have hgw2 : wr.heap.size ≤ gw := by omega
     have hd : g0 ≠ gw ∧ g1 ≠ gw ∧ g2 ≠ gw := by have := hB0.lt; have := hB1.lt; have := hB2.lt; omega
     have hd2 : wr.heap.size ≤ g1 ∧ wr.heap.size ≤ g2 := by omega
     clear hB0 hB1 hB2 b4 hea heb E1 hgw hg1 hg2
     go_upto_region 9 with fail
     refine wp_later fun w2 hw2 => ?_
     obtain ⟨e2, a1, a2, a3, a4, a5, a6⟩ := newB6 hw2
     clear hw2
     obtain ⟨gs, hgs⟩ : ∃ gs, gs = w1.heap.size := ⟨_, rfl⟩
     rw [← hgs] at a1 a2 a3 a4 a5 a6 ⊢
     have A1 := hid a1
     have A2 := hid a2
     have A3 := hid a3
     have A4 := hid a4
     have A5 := hid a5
     have A6 := hid a6
     have l6 := a6.lt
     have kw := (B4.out.ext e2).cell
     have kwl := (B4.out.ext e2).lt
     have hgs2 : wr.heap.size ≤ gs ∧ gw < gs := by have := e1.size; omega
     clear a1 a2 a3 a4 a5 a6 hgs
     refine wp_region_mono 62 [(61, Ptrs gw g1 g2 g0 (gs + 2) (gs + 3) (gs + 4) (gs + 5) gs (gs + 1))] (by kernel_rfl) (by kernel_rfl) (by kernel_rfl) ?hS ?_
     case hS =>
      simp only [List.forall_mem_cons]
      exact ⟨fun _ _ _ _ _ e h => ⟨h.1, h.2.1, h.2.2.ext e⟩, fun _ h => by simp at h⟩
     simp only [List.take_succ_cons, List.take_zero, List.drop_succ_cons, List.drop_zero]
     iterate 61
      refine wpM_plain rfl ?_
      go_big_quiet_step (fail)
      refine wpQuiet_nil ?_
     refine wpM_spec _ rfl rfl (fun w3 hw3 _ => ?_) (fun vp lp hp gp1 gp2 _ hvp => ?_)
     ·go_wp2
      exact ⟨_, _, _, rfl, (Ext.refl _).alloc _, Nat.le_refl _, Nat.le_succ _, by simp, rfl, rfl, Blk.new _ _ _⟩
     obtain ⟨_, rfl, rfl, -⟩ := hvp
     simp only [Act.put, List.setIfInBounds_toArray, List.set_cons_succ, List.set_cons_zero]
     refine wpM_nil fun w4 hw4 hF => ?_
     simp only [List.forall_mem_cons] at hF
     obtain ⟨⟨-, -, -, bP⟩, -⟩ := hF
     have e4 := e2.trans hw4
     have good := adr_good (n := wr.heap.size) (B4.out.ext e4) (B1.out.ext e4) (B2.out.ext e4) (B0.out.ext e4) (A3.out.ext hw4) (A4.out.ext hw4) (A5.out.ext hw4) (A6.out.ext hw4) (A1.out.ext hw4) (A2.out.ext hw4) (by omega) (by omega) (by omega)
     obtain ⟨⟨c, i⟩, hp⟩ : ∃ p, (adr gw g1 g2 g0 (gs + 2) (gs + 3) (gs + 4) (gs + 5) gs (gs + 1))[j]? = some p := ⟨_, List.getElem?_eq_getElem hlj⟩
     obtain ⟨hc1, hc2, hc3, hc4, z, hc5⟩ := good _ (List.mem_of_getElem? hp)
     have kp : w4.cell? ⟨lp, j, none⟩ = some (.pointer (some ⟨c, i, none⟩)) := by
      rw [bP.cell, ptrs, List.getElem?_toArray, List.getElem?_map, hp]; rfl
     have kpl := bP.lt
     dsimp only at hc1 hc2 hc3 hc4 hc5
     clear good hp kw kwl
     go_upto_region 11 with fail
     refine wp_later fun w5 hw5 => ?_
     have e5 : Ext w0 w5 := ((he.trans (e1.trans e4)).setCell _ (Nat.le_trans he.size hc2)).trans hw5
     obtain ⟨y1, y2, y3, bw⟩ := Blk.set3 (B4.out.ext e4) va hc1
     obtain ⟨f1, r1⟩ := IntsB.rd (m := 4) (c := 3) (((IntsB.lit (B1.out.ext e4) rfl).set_ c i va).ext hw5)
     obtain ⟨f2, r2⟩ := IntsB.rd (m := 2) (c := 2) (((IntsB.lit (B2.out.ext e4) rfl).set_ c i va).ext hw5)
     obtain ⟨f3, r3⟩ := IntsB.rd (m := 3) (c := 3) (((IntsB.lit (B0.out.ext e4) rfl).set_ c i va).ext hw5)
     obtain ⟨f4, r4⟩ := IntsB.rd (m := 2) (c := 1) (((IntsB.lit (A1.out.ext hw4) rfl).set_ c i va).ext hw5)
     obtain ⟨f5, r5⟩ := IntsB.rd (m := 1) (c := 2) (((IntsB.lit (A2.out.ext hw4) rfl).set_ c i va).ext hw5)
     obtain ⟨_, z1, z2, z3, b3⟩ := (((IntsB.lit (A3.out.ext hw4) rfl).set_ c i va).ext hw5).three
     obtain ⟨_, z4, z5, b6⟩ := (((IntsB.lit (A4.out.ext hw4) rfl).set_ c i va).ext hw5).two
     obtain ⟨_, z6, b7⟩ := (((IntsB.lit (A5.out.ext hw4) rfl).set_ c i va).ext hw5).one
     obtain ⟨_, z7, b8⟩ := (((IntsB.lit (A6.out.ext hw4) rfl).set_ c i va).ext hw5).one
     have HX : Hid (IsW w5 (.agg #[.int .i64 y1, .int .i64 y2, .int .i64 y3, .slice (some ⟨g1, 0, none⟩) 4 4, .slice (some ⟨g2, 0, none⟩) 2 2, .slice (some ⟨g0, 0, none⟩) 3 3]) { hours := y1, allow := y2, hands := y3, cn := 4, bn := 2, sn := 3, c := f1, b := f2, s := f3 }) := hid ⟨_, _, _, _, _, _, rfl, r1, r2, r3⟩
     have R4 := hid r4
     have R5 := hid r5
     have k0 := (bw.ext hw5).cell
     have k0l := (bw.ext hw5).lt
     have k3 := b3.cell
     have k3l := b3.lt
     have k6 := b6.cell
     have k6l := b6.lt
     have k7 := b7.cell
     have k7l := b7.lt
     have k8 := b8.cell
     have k8l := b8.lt
     clear r1 r2 r3 r4 r5 bw b3 b6 b7 b8 kp kpl hc1 hc2 hc3 hc4 hc5 hw5 bP hw4 e4 e1 e2
     go_wp2_with (go_at_call 112; refine (asked112 HX.out _ _ _ _ _ _ _ R4.out R5.out).mono ?_; rintro e w6 ⟨rfl, he6⟩)
     go_roundw
     case rel => exact ⟨j + 1, by omega, by go_num, e5.trans he6⟩
     case measure => simp [intOf]; omega
    ·obtain rfl : j = 23 := by omega
     go_wp2
     exact ⟨⟨k + 1, by omega, rfl, he⟩, by simp [intOf]; omega⟩
  ·obtain rfl : k = 32 := by omega
   clear hlt hk
   go_upto_region 16 with fail
   rw [show ((32 : Nat) : Int) = 32 from rfl]
   go_loopw [124] (fun i wr => ∃ k : Nat, k ≤ 60 ∧ i = .int .i64 (k : Int) ∧ Ext w0 wr) (fun i _ => 60 - (intOf i).toNat)
   case atStart => exact ⟨0, by omega, rfl, he⟩
   case round =>
    clear he
    obtain ⟨k, hk, rfl, he⟩ := hrel
    by_cases hlt : k < 60
    ·have m9 : Int.tmod (k : Int) 9 = ((k % 9 : Nat) : Int) := rfl
     have m3 : Int.tmod (k : Int) 3 = ((k % 3 : Nat) : Int) := rfl
     have m4 : Int.tmod (k : Int) 4 = ((k % 4 : Nat) : Int) := rfl
     have m5 : Int.tmod (k : Int) 5 = ((k % 5 : Nat) : Int) := rfl
     have m2 : Int.tmod (k : Int) 2 = ((k % 2 : Nat) : Int) := rfl
     go_upto_region 19 with fail
     refine wp_later fun w1 hw1 => ?_
     obtain ⟨e1, b1⟩ := hw1.newB
     obtain ⟨hn, hhn⟩ : ∃ hn : Nat, (hn : Int) = 1 + (k : Int) % 4 := ⟨1 + k % 4, by omega⟩
     obtain ⟨H, hH⟩ : ∃ H : Int, H = 8 + (k : Int) % 9 := ⟨_, rfl⟩
     obtain ⟨al, hal⟩ : ∃ al : Int, al = (k : Int) % 3 := ⟨_, rfl⟩
     rw [← hhn, ← hH, ← hal] at b1
     have hn4 : 1 ≤ hn ∧ hn ≤ 4 := by omega
     have HN := hid hhn
     obtain ⟨g, hg⟩ : ∃ g, g = wr.heap.size := ⟨_, rfl⟩
     rw [← hg] at b1 ⊢
     have B1 := hid b1
     have hg0 : w0.heap.size ≤ g := by have := he.size; omega
     have E1 := hid (he.trans e1)
     clear hw1 hhn hH hal hg b1 he e1
     go_upto_region 20 with fail
     go_loopw [139] (fun i wr => ∃ (j : Nat) (s : Value) (L : List (List Int)), j ≤ 5 ∧ i = .int .i64 (j : Int) ∧ Hid (Blk wr g 26 #[.int .i64 H, .int .i64 al, .int .i64 (hn : Int), s, .slice none 0 0, .slice none 0 0] ∧ OwnR wr (g + 1) 79 3 s L ∧ L.length = j ∧ Ext w0 wr)) (fun i _ => 5 - (intOf i).toNat)
     case atStart => exact ⟨0, _, [], by omega, rfl, hid ⟨B1.out, OwnR.nil, rfl, E1.out⟩⟩
     case round =>
      obtain ⟨j, s, L, hj, rfl, HI⟩ := hrel
      by_cases hlj : (j : Int) < 1 + (k : Int) % 5
      ·as_aux_lemma =>
        have m7 : Int.tmod ((k : Int) + (j : Int) * (k : Int)) 7 = (((k + j * k) % 7 : Nat) : Int) := by rw [← Int.natCast_mul, ← Int.natCast_add]; rfl
        have hjk : j * k ≤ 5 * 60 := Nat.mul_le_mul (by omega) (by omega)
        have hjk1 : (j : Int) * (k : Int) ≤ 300 := by exact_mod_cast hjk
        have hjk2 : (0 : Int) ≤ (j : Int) * (k : Int) := Int.mul_nonneg (by omega) (by omega)
        have mr : Int.tmod ((k : Int) + (j : Int)) 3 = (((k + j) % 3 : Nat) : Int) := by rw [← Int.natCast_add]; rfl
        go_upto_region 23 with fail
        obtain ⟨lo, hlo⟩ : ∃ lo : Int, lo = 30 - 5 * (j : Int) + ((k : Int) + (j : Int) * (k : Int)) % 7 := ⟨_, rfl⟩
        rw [← hlo]
        have hlo1 : 0 < lo ∧ lo ≤ 36 := by omega
        obtain ⟨hlo2, hlo3⟩ := hlo1
        obtain ⟨D, q, rfl, -⟩ := HI.out.2.1.slR
        obtain rfl := HI.out.2.2.1
        have hb := HI.out.1
        have k0 := hb.cell
        have k0l := hb.lt
        clear hlo hb m7 hjk hjk1 hjk2
        have HE := hid (show Ext wr (wr.alloc (.cells #[.int .i64 ((L.length : Int) * 2 + (k : Int) % 2), .int .i64 lo, .int .i64 (lo + ((k : Int) + (L.length : Int)) % 3)] 79)) from (Ext.refl _).alloc _)
        go_wp2_with (at_builtin; refine wpList_append_rows rfl _ _ 22 rfl el22 rfl (HI.out.2.1.ext HE.out) _ 1 1 [[_, _, _]] rfl rfl (by simp) (row3 (Blk.new _ _ _)) (by omega) (by simp; omega) ?_; intro v' w2 hown2 hg2; have T2 := hid ((HI.out.1.ext HE.out).grown hg2 (fun e => by have := HI.out.2.1.block e.symm; omega)); have E2 := hid ((HI.out.2.2.2.trans HE.out).grown hg2 (fun k hk => by have := HI.out.2.1.block hk; omega)); have HO2 := hid hown2; obtain ⟨D2, q2, rfl, -⟩ := hown2.slR; clear hown2 hg2; have k3 := T2.out.cell; have f3 := T2.out.frozen; have k3l := T2.out.lt)
        exact ⟨⟨_, _, _, ⟨L.length + 1, by omega, by go_num, _, L ++ [[_, _, _]], hid ⟨T2.out.set_ 3 _, OwnR.far (by have h := HO2.out; rw [List.length_append] at h; exact h) (show g < g + 1 by omega) _, by simp, E2.out.setCell _ hg0⟩⟩, rfl, rfl, rfl⟩, by simp [intOf]; omega⟩
      ·go_upto_region 26 with fail
       obtain ⟨D1, q1, rfl, -⟩ := HI.out.2.1.slR
       have L1 := hid HI.out.2.2.1
       have h1b := HI.out.1
       have HO1 := hid HI.out.2.1
       have hE1 := HI.out.2.2.2
       have hgr := h1b.lt
       obtain ⟨n1, hn1⟩ : ∃ n1, n1 = L.length := ⟨_, rfl⟩
       rw [← hn1] at h1b HO1
       have hn15 : n1 ≤ 5 := by have := L1.out; omega
       obtain ⟨wc, rfl⟩ : ∃ wc : World, wc = wr := ⟨_, rfl⟩
       have BX1 := hid h1b
       have EX1 := hid hE1
       clear HI L1 hlj hj h1b hE1 hn1
       go_loopw [176] (fun i wr => ∃ (j : Nat) (s : Value) (M : List (List Int)), j ≤ 3 ∧ i = .int .i64 (j : Int) ∧ Hid (Blk wr g 26 #[.int .i64 H, .int .i64 al, .int .i64 (hn : Int), .slice D1 n1 q1, s, .slice none 0 0] ∧ OwnR wr wc.heap.size 119 2 s M ∧ M.length = j ∧ Ext w0 wr ∧ OwnR wr (g + 1) 79 3 (.slice D1 n1 q1) L ∧ wc.heap.size ≤ wr.heap.size)) (fun i _ => 3 - (intOf i).toNat)
       case atStart => exact ⟨0, _, [], by omega, rfl, hid ⟨BX1.out, OwnR.nil, rfl, EX1.out, HO1.out, Nat.le_refl _⟩⟩
       case round =>
        obtain ⟨j, s, M, hj, rfl, HI⟩ := hrel
        by_cases hlj : (j : Int) < (k : Int) % 3
        ·as_aux_lemma =>
          obtain ⟨D, q, rfl, -⟩ := HI.out.2.1.slR
          obtain rfl := HI.out.2.2.1
          have mr : Int.tmod ((k : Int) + 3 * (M.length : Int)) 8 = (((k + 3 * M.length) % 8 : Nat) : Int) := by rw [show (k : Int) + 3 * (M.length : Int) = ((k + 3 * M.length : Nat) : Int) by omega]; rfl
          have hb := HI.out.1
          have hcw := HI.out.2.2.2.2.2
          have k0 := hb.cell
          have k0l := hb.lt
          clear hb
          have HE := hid (show Ext wr (wr.alloc (.cells #[.int .i64 (((k : Int) + 3 * (M.length : Int)) % 8), .int .i64 (1 + (k : Int) % 4 - 7 * (M.length : Int))] 119)) from (Ext.refl _).alloc _)
          go_wp2_with (at_builtin; refine wpList_append_rows rfl _ _ 23 rfl el23 rfl (HI.out.2.1.ext HE.out) _ 1 1 [[_, _]] rfl rfl (by simp) (row2 (Blk.new _ _ _)) (by omega) (by simp; omega) ?_; intro v' w2 hown2 hg2; have T2 := hid ((HI.out.1.ext HE.out).grown hg2 (fun e => by have := HI.out.2.1.block e.symm; omega)); have E2 := hid ((HI.out.2.2.2.1.trans HE.out).grown hg2 (fun k hk => by have := HI.out.2.1.block hk; omega)); have HP2 := hid ((HI.out.2.2.2.2.1.ext HE.out).grownBy_other hg2 (OwnR.apart (HI.out.2.2.2.2.1.ext HE.out) (HI.out.2.1.ext HE.out) (by decide))); have HO2 := hid hown2; have hcw2 := Nat.le_trans hcw (Nat.le_trans HE.out.size hg2.size); obtain ⟨D2, q2, rfl, -⟩ := hown2.slR; clear hown2 hg2; have k3 := T2.out.cell; have f3 := T2.out.frozen; have k3l := T2.out.lt)
          exact ⟨⟨M.length + 1, _, M ++ [[_, _]], by omega, by go_num, hid ⟨T2.out.set_ 4 _, OwnR.far (by have h := HO2.out; rw [List.length_append] at h; exact h) (show g < wc.heap.size by omega) _, by simp, E2.out.setCell _ hg0, OwnR.far HP2.out (show g < g + 1 by omega) _, by simpa using hcw2⟩⟩, by simp [intOf]; omega⟩
        ·have mq : Int.tdiv (k : Int) 2 = ((k / 2 : Nat) : Int) := rfl
         have mq5 : Int.tmod ((k : Int) / 2) 5 = (((k / 2) % 5 : Nat) : Int) := by rw [show (k : Int) / 2 = ((k / 2 : Nat) : Int) by omega]; rfl
         go_upto_region 31 with fail
         obtain ⟨D2, q2, rfl, -⟩ := HI.out.2.1.slR
         have L1 := hid HI.out.2.2.1
         have h1b := HI.out.1
         have HO2 := hid HI.out.2.1
         have hE1 := HI.out.2.2.2.1
         have HO3 := hid HI.out.2.2.2.2.1
         have hcw := HI.out.2.2.2.2.2
         obtain ⟨n2, hn2⟩ : ∃ n2, n2 = M.length := ⟨_, rfl⟩
         rw [← hn2] at h1b HO2
         have hn25 : n2 ≤ 3 := by have := L1.out; omega
         obtain ⟨wd, rfl⟩ : ∃ wd : World, wd = wr := ⟨_, rfl⟩
         have BX2 := hid h1b
         have EX2 := hid hE1
         clear HI L1 hlj hj h1b hE1 hn2
         go_loopw [200] (fun i wr => ∃ (j : Nat) (s : Value) (N : List (List Int)), j ≤ 5 ∧ i = .int .i64 (j : Int) ∧ Hid (Blk wr g 26 #[.int .i64 H, .int .i64 al, .int .i64 (hn : Int), .slice D1 n1 q1, .slice D2 n2 q2, s] ∧ OwnR wr wd.heap.size 114 3 s N ∧ N.length = j ∧ Ext w0 wr ∧ OwnR wr (g + 1) 79 3 (.slice D1 n1 q1) L ∧ OwnR wr wc.heap.size 119 2 (.slice D2 n2 q2) M ∧ wd.heap.size ≤ wr.heap.size)) (fun i _ => 5 - (intOf i).toNat)
         case atStart => exact ⟨0, _, [], by omega, rfl, hid ⟨BX2.out, OwnR.nil, rfl, EX2.out, HO3.out, HO2.out, Nat.le_refl _⟩⟩
         case round =>
          obtain ⟨j, s, N, hj, rfl, HI⟩ := hrel
          by_cases hlj : (j : Int) < (k : Int) / 2 % 5
          ·as_aux_lemma =>
            obtain ⟨D, q, rfl, -⟩ := HI.out.2.1.slR
            obtain rfl := HI.out.2.2.1
            have mf : Int.tmod ((k : Int) + 2 * (N.length : Int)) 7 = (((k + 2 * N.length) % 7 : Nat) : Int) := by rw [show (k : Int) + 2 * (N.length : Int) = ((k + 2 * N.length : Nat) : Int) by omega]; rfl
            have mh : Int.tmod ((k : Int) + (N.length : Int)) (hn : Int) = (((k + N.length) % hn : Nat) : Int) := by rw [show (k : Int) + (N.length : Int) = ((k + N.length : Nat) : Int) by omega]; rfl
            have hne : (hn : Int) ≠ 0 := by omega
            have hb := HI.out.1
            have hdw := HI.out.2.2.2.2.2.2
            have k0 := hb.cell
            have k0l := hb.lt
            clear hb
            go_upto_region 34 with fail
            obtain ⟨fr, hfr⟩ : ∃ fr : Int, fr = ((k : Int) + 2 * (N.length : Int)) % 7 := ⟨_, rfl⟩
            rw [← hfr]
            have hfr1 : 0 ≤ fr ∧ fr ≤ 6 := by omega
            clear hfr mf
            refine wp_region_mono 16 [(15, RowI)] (by kernel_rfl) (by kernel_rfl) (by kernel_rfl) ?hS ?_
            case hS =>
             simp only [List.forall_mem_cons]
             exact ⟨fun _ _ _ _ _ e h => h.imp fun _ h => h.imp fun _ h => h.imp fun _ h => RowN.ext e h, fun _ h => by simp at h⟩
            simp only [List.take_succ_cons, List.take_zero, List.drop_succ_cons, List.drop_zero]
            iterate 15
             refine wpM_plain rfl ?_
             go_big_quiet_step (fail)
             refine wpQuiet_nil ?_
            refine wpM_spec _ rfl rfl (fun w3 hw3 _ => ?_) (fun vp lp hp gp1 gp2 _ hvp => ?_)
            ·go_wp2
             exact ⟨_, _, _, rfl, (Ext.refl _).alloc _, Nat.le_refl _, Nat.le_succ _, by simp, _, _, _, rfl, rfl, _, Blk.new _ _ _⟩
            obtain ⟨_, _, _, _, rfl, rfl, -⟩ := hvp
            simp only [Act.put, List.setIfInBounds_toArray, List.set_cons_succ, List.set_cons_zero]
            refine wpM_nil fun w4 hw4 hF => ?_
            simp only [List.forall_mem_cons] at hF
            obtain ⟨⟨-, za, zb, zc, -, -, tR, bR⟩, -⟩ := hF
            go_wp2_with (at_builtin; refine wpList_append_rows rfl _ _ 24 rfl el24 rfl (HI.out.2.1.ext hw4) _ 1 1 [[_, _, _]] rfl rfl (by simp) (row3 bR) (by omega) (by have := hw4.size; omega) ?_; intro v' w2 hown2 hg2; have T2 := hid ((HI.out.1.ext hw4).grown hg2 (fun e => by have := HI.out.2.1.block e.symm; omega)); have E2 := hid ((HI.out.2.2.2.1.trans hw4).grown hg2 (fun k hk => by have := HI.out.2.1.block hk; omega)); have HP2 := hid ((HI.out.2.2.2.2.1.ext hw4).grownBy_other hg2 (OwnR.apart (HI.out.2.2.2.2.1.ext hw4) (HI.out.2.1.ext hw4) (by decide))); have HQ2 := hid ((HI.out.2.2.2.2.2.1.ext hw4).grownBy_other hg2 (OwnR.apart (HI.out.2.2.2.2.2.1.ext hw4) (HI.out.2.1.ext hw4) (by decide))); have HR2 := hid hown2; have hdw2 := Nat.le_trans hdw (Nat.le_trans hw4.size hg2.size); obtain ⟨D3, q3, rfl, -⟩ := hown2.slR; clear hown2 hg2; have k3 := T2.out.cell; have f3 := T2.out.frozen; have k3l := T2.out.lt)
            exact ⟨⟨N.length + 1, _, N ++ [[_, _, _]], by omega, by go_num, hid ⟨T2.out.set_ 5 _, OwnR.far (by have h := HR2.out; rw [List.length_append] at h; exact h) (show g < wd.heap.size by omega) _, by simp, E2.out.setCell _ hg0, OwnR.far HP2.out (show g < g + 1 by omega) _, OwnR.far HQ2.out (show g < wc.heap.size by omega) _, by simpa using hdw2⟩⟩, by simp [intOf]; omega⟩
          ·as_aux_lemma =>
            go_upto_region 36 with fail
            obtain ⟨D3, q3, rfl, -⟩ := HI.out.2.1.slR
            have L1 := hid HI.out.2.2.1
            have hNl : N.length ≤ 5 := by have := L1.out; omega
            have HX := hid (show IsW wr (.agg #[.int .i64 H, .int .i64 al, .int .i64 (hn : Int), .slice D1 n1 q1, .slice D2 n2 q2, .slice D3 N.length q3]) { hours := H, allow := al, hands := hn, cn := n1, bn := n2, sn := N.length, c := rowsAt L, b := rowsAt M, s := rowsAt N } from ⟨_, _, _, _, _, _, rfl, ownR_rd HI.out.2.2.2.2.1, ownR_rd HI.out.2.2.2.2.2.1, ownR_rd HI.out.2.1⟩)
            have hb := HI.out.1
            have BX := hid hb
            have k0 := hb.cell
            have k0l := hb.lt
            have EX := hid HI.out.2.2.2.1
            have mh : Int.tmod (k : Int) (hn : Int) = ((k % hn : Nat) : Int) := rfl
            have hne : (hn : Int) ≠ 0 := by omega
            have hkn : k % hn < hn := Nat.mod_lt _ (by omega)
            clear HI L1 hb mq mq5 hlj
            have hk1 : 0 ≤ (k : Int) % (hn : Int) := Int.emod_nonneg _ hne
            have hk2 : (k : Int) % (hn : Int) < (hn : Int) := Int.emod_lt_of_pos _ (by omega)
            refine wp_region_mono 10 [(5, fun v _ _ w => ∃ u U z, v = .tuple #[u, .int .i64 z] ∧ OwnR w wr.heap.size 51 2 u U ∧ U.length ≤ 1000)] (by kernel_rfl) (by kernel_rfl) (by kernel_rfl) ?hS ?_
            case hS =>
             simp only [List.forall_mem_cons]
             exact ⟨fun _ _ _ _ _ e h => h.imp fun _ h => h.imp fun _ h => h.imp fun _ h => ⟨h.1, h.2.1.ext e, h.2.2⟩, fun _ h => by simp at h⟩
            simp only [List.take_succ_cons, List.take_zero, List.drop_succ_cons, List.drop_zero]
            iterate 5
             refine wpM_plain rfl ?_
             go_big_quiet_step (fail)
             refine wpQuiet_nil ?_
            refine wpM_spec _ rfl rfl (fun w3 hw3 _ => ?_) (fun vp lp hp gp1 gp2 _ hvp => ?_)
            ·go_wp2_with (go_at_call 26; refine (proof_own (HX.out.ext hw3) (by show n1 ≤ 1000; omega) (by show n2 ≤ 1000; omega) (by show N.length ≤ 1000; omega) _ hk1 hk2 (by show (hn : Int) ≤ 4; omega)).mono ?_; rintro e w5 ⟨u, U, z, rfl, he5, hU, hUl⟩)
             exact ⟨_, _, _, rfl, he5, Nat.le_refl _, he5.size, Nat.le_refl _, u, U, z, rfl, hU.base hw3.size, hUl⟩
            obtain ⟨_, u, _, z, rfl, -⟩ := hvp
            simp only [Act.put, List.setIfInBounds_toArray, List.set_cons_succ, List.set_cons_zero]
            iterate 4
             refine wpM_plain rfl ?_
             go_big_quiet_step (fail)
             refine wpQuiet_nil ?_
            refine wpM_nil fun w4 hw4 hF => ?_
            simp only [List.forall_mem_cons] at hF
            obtain ⟨⟨-, u', U, z', hq, hU, hUl⟩, -⟩ := hF
            obtain ⟨rfl, -⟩ : u = u' ∧ z = z' := by simpa using hq
            obtain ⟨A6, q6, rfl, -⟩ := hU.slR
            have HU := hid hU
            have hgw : g < wr.heap.size := BX.out.lt
            have E4 := hid hw4
            have hw44 := hw4.size
            clear hq hU hw4 mh hne hkn hn15 hn25 hNl k0 k0l HO1 HO2 HO3 BX1 BX2 B1 m9 m3 m5 m2
            have m3 : Int.tmod (k : Int) 3 = ((k % 3 : Nat) : Int) := rfl
            have m5 : Int.tmod (k : Int) 5 = ((k % 5 : Nat) : Int) := rfl
            have m2 : Int.tmod (k : Int) 2 = ((k % 2 : Nat) : Int) := rfl
            have m11 : Int.tmod (k : Int) 11 = ((k % 11 : Nat) : Int) := rfl
            have m30 : Int.tmod (k : Int) 30 = ((k % 30 : Nat) : Int) := rfl
            obtain ⟨r, hr, hr4⟩ : ∃ r : Nat, (r : Int) = (k : Int) % 4 ∧ r < 4 := ⟨k % 4, by omega, by omega⟩
            replace m4 : Int.tmod (k : Int) 4 = (r : Int) := by rw [m4]; omega
            clear hr
            by_cases hr0 : (r : Int) = 0
            case' pos =>
             go_upto_region 39 with (at_builtin; refine wpList_append_rows rfl _ _ 45 rfl el45 rfl (HU.out.ext (Ext.alloc (Ext.refl _) _)) _ 1 1 [[_, _]] rfl rfl (by simp) (row2 (Blk.new _ _ _)) (by omega) (by simp; omega) ?_; intro v' wz hown2 hg2; have Ez := hid ((E4.out.trans (Ext.alloc (Ext.refl _) _)).grown hg2 (fun k hk => HU.out.block hk)); obtain ⟨A7, q7, rfl, hr7⟩ := hown2.slR; rw [List.length_append] at hr7; have RU := hid hr7; clear hr7 hown2 hg2)
             generalize rowsAt _ = f7 at RU
            case' neg =>
             go_upto_region 39 with fail
             obtain ⟨wz, rfl⟩ : ∃ wz : World, wz = w4 := ⟨_, rfl⟩
             have Ez := E4
             obtain ⟨A7, q7, hv7, hr7⟩ := HU.out.slR
             obtain ⟨rfl, rfl⟩ : A6 = A7 ∧ q6 = q7 := by simpa using hv7
             have RU := hid hr7
             clear hr7 hv7
             generalize rowsAt _ = f7 at RU
            all_goals
             clear hr0
             have k0 := (BX.out.ext Ez.out).cell
             have k0l := (BX.out.ext Ez.out).lt
             refine wp_region_mono 25 [(16, RowN 1 #[.int .i64 0]), (17, RowN 2 #[.int .i64 1, .int .i64 0]), (18, RowN 2 #[.int .i64 0, .int .i64 0]), (19, S19), (23, S23)] (by kernel_rfl) (by kernel_rfl) (by kernel_rfl) ?hS ?_
             case hS =>
              simp only [List.forall_mem_cons]
              exact ⟨fun _ _ _ _ _ e h => RowN.ext e h, fun _ _ _ _ _ e h => RowN.ext e h, fun _ _ _ _ _ e h => RowN.ext e h, fun _ _ _ _ _ e h => S19.ext e h, fun _ _ _ _ _ e h => S23.ext e h, fun _ h => by simp at h⟩
             simp only [List.take_succ_cons, List.take_zero, List.drop_succ_cons, List.drop_zero]
             iterate 16
              refine wpM_plain rfl ?_
              go_big_quiet_step (fail)
              refine wpQuiet_nil ?_
             refine wpM_spec _ rfl rfl (fun w2 hw2 _ => ?_) (fun va la ha ga1 ga2 _ hva => ?_)
             ·go_wp2
              exact ⟨_, _, _, rfl, (Ext.refl _).alloc _, Nat.le_refl _, Nat.le_succ _, by simp, rfl, rfl, _, Blk.new _ _ _⟩
             obtain ⟨_, rfl, rfl, -⟩ := hva
             simp only [Act.put, List.setIfInBounds_toArray, List.set_cons_succ, List.set_cons_zero]
             refine wpM_spec _ rfl rfl (fun w2 hw2 _ => ?_) (fun vb lb hb gb1 gb2 _ hvb => ?_)
             ·go_wp2
              exact ⟨_, _, _, rfl, (Ext.refl _).alloc _, Nat.le_refl _, Nat.le_succ _, by simp, rfl, rfl, _, Blk.new _ _ _⟩
             obtain ⟨_, rfl, rfl, -⟩ := hvb
             simp only [Act.put, List.setIfInBounds_toArray, List.set_cons_succ, List.set_cons_zero]
             refine wpM_spec _ rfl rfl (fun w2 hw2 _ => ?_) (fun vc lc hc gc1 gc2 _ hvc => ?_)
             ·go_wp2
              exact ⟨_, _, _, rfl, (Ext.refl _).alloc _, Nat.le_refl _, Nat.le_succ _, by simp, rfl, rfl, _, Blk.new _ _ _⟩
             obtain ⟨_, rfl, rfl, -⟩ := hvc
             simp only [Act.put, List.setIfInBounds_toArray, List.set_cons_succ, List.set_cons_zero]
             refine wpM_spec _ rfl rfl (fun w2 hw2 hF => ?_) (fun vd ld hd gd1 gd2 _ hvd => ?_)
             ·obtain ⟨-, -, -, tc, bc⟩ := hF _ (.head _) (by kernel_rfl)
              obtain ⟨-, -, -, tb, bb⟩ := hF _ (.tail _ (.head _)) (by kernel_rfl)
              obtain ⟨-, -, -, ta, ba⟩ := hF _ (.tail _ (.tail _ (.head _))) (by kernel_rfl)
              clear hF
              go_wp2
              exact ⟨_, _, _, rfl, (Ext.refl _).alloc _, Nat.le_refl _, Nat.le_succ _, by simp, la, lb, lc, rfl, rfl, ⟨_, Blk.new _ _ _⟩, ⟨_, ba.ext ((Ext.refl _).alloc _)⟩, ⟨_, bb.ext ((Ext.refl _).alloc _)⟩, _, bc.ext ((Ext.refl _).alloc _)⟩
             obtain ⟨_, _, _, _, rfl, rfl, -⟩ := hvd
             simp only [Act.put, List.setIfInBounds_toArray, List.set_cons_succ, List.set_cons_zero]
             iterate 3
              refine wpM_plain rfl ?_
              go_big_quiet_step (fail)
              refine wpQuiet_nil ?_
             refine wpM_spec _ rfl rfl (fun w2 hw2 hF => ?_) (fun ve le he ge1 ge2 _ hve => ?_)
             ·obtain ⟨-, l16, l17, l18, -, -, ⟨td, bd⟩, ⟨ta, ba⟩, ⟨tb, bb⟩, ⟨tc, bc⟩⟩ := hF _ (.head _) (by kernel_rfl)
              obtain ⟨A8, n8, q8, f8, kd, r8⟩ : ∃ A n cap f, w2.cell? ⟨ld, r, none⟩ = some (.slice A n cap) ∧ Rd w2 A n 1 f := by
               rw [bd.cell]
               match r, hr4 with
               | 0, _ => exact ⟨none, 0, 0, fun _ _ => 0, rfl, Rd.nil⟩
               | 1, _ => exact ⟨_, _, _, _, rfl, Rd.of_blk (L := [[0]]) ba (by simp [cellsOf]) (by simp)⟩
               | 2, _ => exact ⟨_, _, _, _, rfl, Rd.of_blk (L := [[1], [0]]) bb (by simp [cellsOf]) (by simp)⟩
               | 3, _ => exact ⟨_, _, _, _, rfl, Rd.of_blk (L := [[0], [0]]) bc (by simp [cellsOf]) (by simp)⟩
               | r + 4, h => exact absurd h (by omega)
              have kdl := bd.lt
              clear hF
              go_wp2
              exact ⟨_, _, _, rfl, Ext.refl _, Nat.le_refl _, Nat.le_refl _, Nat.le_refl _, _, _, _, _, rfl, r8⟩
             obtain ⟨_, A8, n8, q8, f8, rfl, -⟩ := hve
             simp only [Act.put, List.setIfInBounds_toArray, List.set_cons_succ, List.set_cons_zero]
             refine wpM_plain rfl ?_
             go_big_quiet_step (fail)
             refine wpQuiet_nil ?_
             refine wpM_nil fun w7 hw7 hF => ?_
             simp only [List.forall_mem_cons] at hF
             obtain ⟨⟨-, A9, n9, q9, f9, hv9, r9⟩, -⟩ := hF
             obtain ⟨rfl, rfl, rfl⟩ : A8 = A9 ∧ n8 = n9 ∧ q8 = q9 := by simpa using hv9
             have R9 := hid r9
             clear r9 hv9 k0 k0l m2 m3 m4 m5 m11 m30
             go_wp2_with (go_at_call 112; refine (asked112 (HX.out.ext (Ez.out.trans hw7)) _ _ _ _ _ _ _ R9.out (RU.out.ext hw7)).mono ?_; rintro e w8 ⟨rfl, he8⟩)
             go_roundw
             case rel => exact ⟨k + 1, by omega, by go_num, EX.out.trans (Ez.out.trans (hw7.trans he8))⟩
             case measure => simp [intOf]; omega
    ·obtain rfl : k = 60 := by omega
     clear hlt hk
     go_upto_region 43 with fail
     rw [show ((60 : Nat) : Int) = 60 from rfl]
     go_loopw [274] (fun i wr => ∃ k : Nat, k ≤ 15 ∧ i = .int .i64 (k : Int) ∧ Ext w0 wr) (fun i _ => 15 - (intOf i).toNat)
     case atStart => exact ⟨0, by omega, rfl, he⟩
     case round =>
      clear he
      obtain ⟨k, hk, rfl, he⟩ := hrel
      by_cases hlt : k < 15
      ·go_upto_region 46 with (first
        | (go_at_call 111; (fail_if_success (have := hS1)); refine (all111s 14 _).mono ?_; rintro e wa ⟨g0, rfl, ea, hg0, hS1⟩)
        | (go_at_call 111; refine (all111s 14 _).mono ?_; rintro e wb ⟨g0b, rfl, eb, hg0b, hS2⟩)
        | (go_at_call 110; (fail_if_success (have := hC1)); refine four110s.mono ?_; rintro e wc ⟨g1, g2, rfl, ec, hg1, hg2, hg12, hC1, hB1⟩)
        | (go_at_call 110; (fail_if_success (have := hC2)); refine four110s.mono ?_; rintro e wd ⟨g1b, g2b, rfl, ed, hg1b, hg2b, hg12b, hC2, hB2⟩)
        | (go_at_call 110; refine four110s.mono ?_; rintro e we ⟨g1c, g2c, rfl, ee, hg1c, hg2c, hg12c, hC3, hB3⟩))
       refine wp_later fun w1 hw1 => ?_
       obtain ⟨e1, x1, x2, x3⟩ := newB3' hw1
       have el := ee.trans e1
       have OB := hid (show (Blk w1 g2 119 b4 ∧ Blk w1 g0 114 (s9 14)) ∧ (Blk w1 g1b 79 c12 ∧ Blk w1 g0b 114 (s9 14)) ∧ Blk w1 g1c 79 c12 ∧ Blk w1 g2c 119 b4 from ⟨⟨hB1.ext (eb.trans (ed.trans el)), hS1.ext (ec.trans (eb.trans (ed.trans el)))⟩, ⟨hC2.ext el, hS2.ext (ed.trans el)⟩, hC3.ext e1, hB3.ext e1⟩)
       have OL := hid (show (g2 < we.heap.size ∧ g0 < we.heap.size) ∧ (g1b < we.heap.size ∧ g0b < we.heap.size) ∧ g1c < we.heap.size ∧ g2c < we.heap.size from ⟨⟨(hB1.ext (eb.trans (ed.trans ee))).lt, (hS1.ext (ec.trans (eb.trans (ed.trans ee)))).lt⟩, ⟨(hC2.ext ee).lt, (hS2.ext (ed.trans ee)).lt⟩, hC3.lt, hB3.lt⟩)
       have ew : Ext wr we := ea.trans (ec.trans (eb.trans (ed.trans ee)))
       have E1 := hid (he.trans (ew.trans e1))
       obtain ⟨gb, hgb⟩ : ∃ gb, gb = we.heap.size := ⟨_, rfl⟩
       have hgb0 : w0.heap.size ≤ gb := by have := he.size; have := ew.size; omega
       rw [← hgb] at x1 x2 x3 OL ⊢
       have X1 := hid x1
       have X2 := hid x2
       have X3 := hid x3
       have k1l := x1.lt
       have k2l := x2.lt
       have f1 := x1.frozen
       have f2 := x2.frozen
       have k1 := x1.cell
       have k2 := x2.cell
       clear hw1 ea eb ec ed ee el e1 ew hB1 hB2 hB3 hC1 hC2 hC3 hS1 hS2 hg0 hg0b hg1 hg1b hg1c hg2 hg2b hg2c hg12 hg12b hg12c hgb he x1 x2 x3
       go_upto_region 47 with fail
       refine wp_later fun w2 hw2 => ?_
       have HT := hid (show T3 w0 w2 w2 gb (.slice (some ⟨g2, 0, none⟩) 2 2) (.slice (some ⟨g0, 0, none⟩) 3 3) (.slice (some ⟨g1b, 0, none⟩) 4 4) (.slice (some ⟨g0b, 0, none⟩) 3 3) (.slice (some ⟨g1c, 0, none⟩) 4 4) (.slice (some ⟨g2c, 0, none⟩) 2 2) (.slice none 0 0) (.slice none 0 0) (.slice none 0 0) 0 0 0 from ⟨((X1.out.set_ 3 _).far (show gb ≠ gb + 1 by omega) _).ext hw2, ((X2.out.far (show gb + 1 ≠ gb by omega) _).set_ 4 _).ext hw2, ((X3.out.far (show gb + 2 ≠ gb by omega) _).far (show gb + 2 ≠ gb + 1 by omega) _).ext hw2, OwnR.nil, OwnR.nil, OwnR.nil, fun _ _ => rfl, ((E1.out.setCell _ hgb0).setCell _ (show w0.heap.size ≤ gb + 1 by omega)).trans hw2⟩)
       have hfar : ∀ b t C, b < gb → Blk w1 b t C → Blk w2 b t C := fun b t C hb h => ((h.far (show b ≠ gb by omega) _).far (show b ≠ gb + 1 by omega) _).ext hw2
       replace OB := hid (show (Blk w2 g2 119 b4 ∧ Blk w2 g0 114 (s9 14)) ∧ (Blk w2 g1b 79 c12 ∧ Blk w2 g0b 114 (s9 14)) ∧ Blk w2 g1c 79 c12 ∧ Blk w2 g2c 119 b4 from ⟨⟨hfar _ _ _ OL.out.1.1 OB.out.1.1, hfar _ _ _ OL.out.1.2 OB.out.1.2⟩, ⟨hfar _ _ _ OL.out.2.1.1 OB.out.2.1.1, hfar _ _ _ OL.out.2.1.2 OB.out.2.1.2⟩, hfar _ _ _ OL.out.2.2.1 OB.out.2.2.1, hfar _ _ _ OL.out.2.2.2 OB.out.2.2.2⟩)
       clear hfar hw2 X1 X2 X3 k1l k2l f1 f2 k1 k2 E1
       go_upto_region 48 with fail
       go_loopw [285] (fun i wr => ∃ (j : Nat) (s1 s2 s3 : Value), j ≤ k ∧ i = .int .i64 (j : Int) ∧ Hid (T3 w0 w2 wr gb (.slice (some ⟨g2, 0, none⟩) 2 2) (.slice (some ⟨g0, 0, none⟩) 3 3) (.slice (some ⟨g1b, 0, none⟩) 4 4) (.slice (some ⟨g0b, 0, none⟩) 3 3) (.slice (some ⟨g1c, 0, none⟩) 4 4) (.slice (some ⟨g2c, 0, none⟩) 2 2) s1 s2 s3 j j j)) (fun i _ => k - (intOf i).toNat)
       case atStart => exact ⟨0, _, _, _, by omega, rfl, hid HT.out⟩
       case round =>
        clear HT
        obtain ⟨j, s1, s2, s3, hj, rfl, HT⟩ := hrel
        by_cases hlj : j < k
        ·as_aux_lemma =>
          obtain ⟨D1, q1, rfl, -⟩ := HT.out.o1.slR
          obtain ⟨D2, q2, rfl, -⟩ := HT.out.o2.slR
          obtain ⟨D3, q3, rfl, -⟩ := HT.out.o3.slR
          rw [rowsC_length, rowsB_length, rowsS_length] at HT
          have k1 := HT.out.x1.cell
          have k1l := HT.out.x1.lt
          have hj3 : Int.tmod (j : Int) 3 = ((j % 3 : Nat) : Int) := rfl
          have hsz := HT.out.x3.lt
          go_upto_region 51 with (at_builtin; refine wpList_append_rows rfl _ _ 22 rfl el22 rfl (HT.out.o1.ext (Ext.alloc (Ext.refl _) _)) _ 1 1 [[_, _, _]] rfl rfl (by simp) (row3 (Blk.new _ _ _)) (by rw [rowsC_length]; omega) (by simp; omega) ?_; intro v' wx hown2 hg2; obtain ⟨D, q, hv1, -⟩ := hown2.slR; rw [List.length_append, rowsC_length] at hv1; subst hv1; have MID := (HT.out.ext (Ext.alloc (Ext.refl _) _)).mid hg2 (fun g hg => HT.out.o1.block hg); have T2 := hid ((HT.out.ext (Ext.alloc (Ext.refl _) _)).put1 hgb0 hg2 hown2); obtain ⟨M1, -, -⟩ := MID; have k3 := M1.cell; have f3 := M1.frozen; have k3l := M1.lt; clear M1 hg2 hown2)
          refine wp_later fun wy hy => ?_
          have TA := hid (T2.out.ext hy)
          clear k1 k1l k3 f3 k3l hy T2 hsz
          have k1 := TA.out.x2.cell
          have k1l := TA.out.x2.lt
          have hsz := TA.out.x3.lt
          go_upto_region 52 with (at_builtin; refine wpList_append_rows rfl _ _ 23 rfl el23 rfl (TA.out.o2.ext (Ext.alloc (Ext.refl _) _)) _ 1 1 [[_, _]] rfl rfl (by simp) (row2 (Blk.new _ _ _)) (by rw [rowsB_length]; omega) (by simp; omega) ?_; intro v' wx hown2 hg2; obtain ⟨D, q, hv1, -⟩ := hown2.slR; rw [List.length_append, rowsB_length] at hv1; subst hv1; have MID := (TA.out.ext (Ext.alloc (Ext.refl _) _)).mid hg2 (fun g hg => TA.out.o2.block hg); have T2 := hid ((TA.out.ext (Ext.alloc (Ext.refl _) _)).put2 hgb0 hg2 hown2); obtain ⟨-, M1, -⟩ := MID; have k3 := M1.cell; have f3 := M1.frozen; have k3l := M1.lt; clear M1 hg2 hown2)
          refine wp_later fun wz hz => ?_
          have TB := hid (T2.out.ext hz)
          clear k1 k1l k3 f3 k3l hz T2 hsz TA
          have k1 := TB.out.x3.cell
          have k1l := TB.out.x3.lt
          have hsz := TB.out.x3.lt
          go_wp2_with (at_builtin; refine wpList_append_rows rfl _ _ 24 rfl el24 rfl (TB.out.o3.ext (Ext.alloc (Ext.refl _) _)) _ 1 1 [[_, _, _]] rfl rfl (by simp) (row3 (Blk.new _ _ _)) (by rw [rowsS_length]; omega) (by simp; omega) ?_; intro v' wx hown2 hg2; obtain ⟨D, q, hv1, -⟩ := hown2.slR; rw [List.length_append, rowsS_length] at hv1; subst hv1; have MID := (TB.out.ext (Ext.alloc (Ext.refl _) _)).mid hg2 (fun g hg => TB.out.o3.block hg); have T2 := hid ((TB.out.ext (Ext.alloc (Ext.refl _) _)).put3 hgb0 hg2 hown2); obtain ⟨-, -, M1⟩ := MID; have k3 := M1.cell; have f3 := M1.frozen; have k3l := M1.lt; clear M1 hg2 hown2)
          exact ⟨⟨j + 1, _, _, _, by omega, by go_num, hid T2.out⟩, by simp [intOf]; omega⟩
        ·obtain rfl : j = k := by omega
         go_upto_region 54 with fail
         obtain ⟨D1, q1, rfl, -⟩ := HT.out.o1.slR
         obtain ⟨D2, q2, rfl, -⟩ := HT.out.o2.slR
         obtain ⟨D3, q3, rfl, -⟩ := HT.out.o3.slR
         rw [rowsC_length, rowsB_length, rowsS_length] at HT
         have k1 := HT.out.x1.cell
         have k2 := HT.out.x2.cell
         have k3 := HT.out.x3.cell
         have k1l := HT.out.x1.lt
         have k2l := HT.out.x2.lt
         have k3l := HT.out.x3.lt
         go_upto_region 55 with fail
         refine wp_later fun wA hwA => ?_
         obtain ⟨eA, bA⟩ := hwA.newB
         have EA := hid (HT.out.e.trans eA)
         have HA := hid (show IsW wA (.agg #[.int .i64 24, .int .i64 1, .int .i64 3, .slice D1 j q1, .slice (some ⟨g2, 0, none⟩) 2 2, .slice (some ⟨g0, 0, none⟩) 3 3]) (xA j) from ⟨_, _, _, _, _, _, rfl, (ownR_rd HT.out.o1).ext eA, (rd4 ((HT.out.old _ OL.out.1.1).trans OB.out.1.1)).ext eA, (rd9 ((HT.out.old _ OL.out.1.2).trans OB.out.1.2)).ext eA⟩)
         have HB := hid (show IsW wA (.agg #[.int .i64 24, .int .i64 1, .int .i64 3, .slice (some ⟨g1b, 0, none⟩) 4 4, .slice D2 j q2, .slice (some ⟨g0b, 0, none⟩) 3 3]) (xB j) from ⟨_, _, _, _, _, _, rfl, (rd12 ((HT.out.old _ OL.out.2.1.1).trans OB.out.2.1.1)).ext eA, (ownR_rd HT.out.o2).ext eA, (rd9 ((HT.out.old _ OL.out.2.1.2).trans OB.out.2.1.2)).ext eA⟩)
         have HC := hid (show IsW wA (.agg #[.int .i64 24, .int .i64 1, .int .i64 3, .slice (some ⟨g1c, 0, none⟩) 4 4, .slice (some ⟨g2c, 0, none⟩) 2 2, .slice D3 j q3]) (xC j) from ⟨_, _, _, _, _, _, rfl, (rd12 ((HT.out.old _ OL.out.2.2.1).trans OB.out.2.2.1)).ext eA, (rd4 ((HT.out.old _ OL.out.2.2.2).trans OB.out.2.2.2)).ext eA, (ownR_rd HT.out.o3).ext eA⟩)
         obtain ⟨gA, hgA⟩ : ∃ gA, gA = wr.heap.size := ⟨_, rfl⟩
         rw [← hgA] at bA ⊢
         have BA := hid bA
         clear k1 k2 k3 k1l k2l k3l HT OL OB hgA bA eA hwA hj hlj
         go_loopw [325] (fun i wr => ∃ m : Nat, m ≤ 3 ∧ i = .int .i64 (m : Int) ∧ Ext wA wr) (fun i _ => 3 - (intOf i).toNat)
         case atStart => exact ⟨0, by omega, rfl, Ext.refl _⟩
         case round =>
          as_aux_lemma =>
           obtain ⟨m, hm, rfl, he⟩ := hrel
           by_cases hlm : m < 3
           ·have k0 := (BA.out.ext he).cell
            have k0l := (BA.out.ext he).lt
            have m3 : Int.tmod (j : Int) 3 = ((j % 3 : Nat) : Int) := rfl
            clear hm
            rcases (show m = 0 ∨ m = 1 ∨ m = 2 by omega) with rfl | rfl | rfl
            ·obtain ⟨z, hz⟩ : ∃ z, z = P.chk (xA j) := ⟨_, rfl⟩
             have hdj : (0 < j ∧ (z == 0) = decide ((j : Int) < 9)) ∨ (¬ 0 < j ∧ (z == 0) = false) := by
              have q := chkA j hlt
              rw [← hz] at q
              by_cases h : 0 < j
              ·refine .inl ⟨h, ?_⟩
               rw [decide_eq_true h, Bool.true_and] at q
               exact (show (z == 0) = decide (z = 0) from rfl).trans (q.trans (decide_eq_decide.2 (by omega)))
              ·refine .inr ⟨h, ?_⟩
               rw [decide_eq_false h, Bool.false_and] at q
               exact q
             have HZ := hid hz
             clear hz
             rcases hdj with ⟨h1, h0⟩ | ⟨h1, h0⟩
             all_goals
              go_upto_region 57 with fail
              refine wp_later fun wB hB => ?_
              obtain ⟨eB, bB⟩ := hB.newB
              have BB := hid bB
              have k4 := bB.cell
              have k4l := bB.lt
              clear hB bB
              go_wp2_with (first
               | (go_at_call 112; refine (asked112 (HA.out.ext ((he.trans eB).trans (Ext.alloc (Ext.refl _) _))) _ _ _ _ _ _ _ (Rd.of_blk (L := [[0]]) (Blk.new _ _ _) (by simp [cellsOf]) (by simp)) Rd.nil (g' := fun _ _ => 0)).mono ?_; rintro e w6 ⟨rfl, he6⟩; have e6 := hid ((Ext.alloc (Ext.refl _) _).trans he6); have k5 := (BB.out.ext e6.out).cell; have k5l := (BB.out.ext e6.out).lt)
               | (go_at_call 54; refine (check_any (HA.out.ext ((he.trans eB).trans e6.out)) (by show j ≤ 1000; omega) (by show 2 ≤ 1000; omega) (by show 3 ≤ 1000; omega)).mono ?_; rintro e w7 ⟨rfl, he7⟩; rw [← HZ.out]))
              all_goals exact ⟨⟨1, by omega, rfl, he.trans (eB.trans (e6.out.trans (he7.trans (Ext.alloc (Ext.refl _) _))))⟩, by simp [intOf]⟩
            ·obtain ⟨z, hz⟩ : ∃ z, z = P.chk (xB j) := ⟨_, rfl⟩
             have hdj : (z == 0) = decide ((j : Int) < 11) := by
              have q := chkB j hlt
              rw [← hz] at q
              exact (show (z == 0) = decide (z = 0) from rfl).trans (q.trans (decide_eq_decide.2 (by omega)))
             have HZ := hid hz
             clear hz
             have h0 := hdj
             all_goals
              go_upto_region 57 with fail
              refine wp_later fun wB hB => ?_
              obtain ⟨eB, bB⟩ := hB.newB
              have BB := hid bB
              have k4 := bB.cell
              have k4l := bB.lt
              clear hB bB
              go_wp2_with (first
               | (go_at_call 112; refine (asked112 (HB.out.ext ((he.trans eB).trans (Ext.alloc (Ext.refl _) _))) _ _ _ _ _ _ _ (Rd.of_blk (L := [[0]]) (Blk.new _ _ _) (by simp [cellsOf]) (by simp)) Rd.nil (g' := fun _ _ => 0)).mono ?_; rintro e w6 ⟨rfl, he6⟩; have e6 := hid ((Ext.alloc (Ext.refl _) _).trans he6); have k5 := (BB.out.ext e6.out).cell; have k5l := (BB.out.ext e6.out).lt)
               | (go_at_call 54; refine (check_any (HB.out.ext ((he.trans eB).trans e6.out)) (by show 4 ≤ 1000; omega) (by show j ≤ 1000; omega) (by show 3 ≤ 1000; omega)).mono ?_; rintro e w7 ⟨rfl, he7⟩; rw [← HZ.out]))
              all_goals exact ⟨⟨2, by omega, rfl, he.trans (eB.trans (e6.out.trans (he7.trans (Ext.alloc (Ext.refl _) _))))⟩, by simp [intOf]⟩
            ·obtain ⟨z, hz⟩ : ∃ z, z = P.chk (xC j) := ⟨_, rfl⟩
             have hdj : (z == 0) = decide ((j : Int) < 13) := by
              have q := chkC j hlt
              rw [← hz] at q
              exact (show (z == 0) = decide (z = 0) from rfl).trans (q.trans (decide_eq_decide.2 (by omega)))
             have HZ := hid hz
             clear hz
             have h0 := hdj
             all_goals
              go_upto_region 57 with fail
              refine wp_later fun wB hB => ?_
              obtain ⟨eB, bB⟩ := hB.newB
              have BB := hid bB
              have k4 := bB.cell
              have k4l := bB.lt
              clear hB bB
              go_wp2_with (first
               | (go_at_call 112; refine (asked112 (HC.out.ext ((he.trans eB).trans (Ext.alloc (Ext.refl _) _))) _ _ _ _ _ _ _ (Rd.of_blk (L := [[0]]) (Blk.new _ _ _) (by simp [cellsOf]) (by simp)) Rd.nil (g' := fun _ _ => 0)).mono ?_; rintro e w6 ⟨rfl, he6⟩; have e6 := hid ((Ext.alloc (Ext.refl _) _).trans he6); have k5 := (BB.out.ext e6.out).cell; have k5l := (BB.out.ext e6.out).lt)
               | (go_at_call 54; refine (check_any (HC.out.ext ((he.trans eB).trans e6.out)) (by show 4 ≤ 1000; omega) (by show 2 ≤ 1000; omega) (by show j ≤ 1000; omega)).mono ?_; rintro e w7 ⟨rfl, he7⟩; rw [← HZ.out]))
              all_goals exact ⟨⟨3, by omega, rfl, he.trans (eB.trans (e6.out.trans (he7.trans (Ext.alloc (Ext.refl _) _))))⟩, by simp [intOf]⟩
           ·obtain rfl : m = 3 := by omega
            go_wp2
            exact ⟨⟨j + 1, by omega, by go_num, EA.out.trans he⟩, by simp [intOf]; omega⟩
      ·obtain rfl : k = 15 := by omega
       go_wp2_with (go_at_call 18; refine (awake_any _).mono ?_; rintro e w9 ⟨rfl, he9⟩)
       go_ret
       exact ⟨rfl, E0.trans (he.trans he9)⟩
end Go.Proofs.YtkhjmedfhobebaaGreat
