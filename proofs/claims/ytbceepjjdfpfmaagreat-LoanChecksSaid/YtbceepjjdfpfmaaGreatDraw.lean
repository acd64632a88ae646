/- Walks of the sack's draws. -/
import Derived.Test.YtbceepjjdfpfmaaGreatProg
import Derived.Test.YtbceepjjdfpfmaaGreatSack
import Derived.RegionTactic
import Derived.Test.YtbceepjjdfpfmaaGreatWords
namespace Go.Proofs.YtbceepjjdfpfmaaGreat
open Go.RowKit
set_option maxHeartbeats 1600000
set_option maxRecDepth 100000
/-- The sack's bytes can be read. -/
def Bytes (w : World) (d : SackD) : Prop := 0 < d.n → ∃ b o, d.A = some ⟨b, o, none⟩ ∧ b ≠ d.blk ∧ ∀ k, k < d.n → ∃ c : Int, w.cell? ⟨b, o + k, none⟩ = some (.int .u8 c)
theorem Bytes.sx {d : SackD} {k : Nat} {w w' : World} (h : Bytes w d) (e : Sx d k w w') : Bytes w' d := fun h0 => by
  obtain ⟨b, o, h1, h2, h3⟩ := h h0
  refine ⟨b, o, h1, h2, fun k hk => ?_⟩
  obtain ⟨c, hc⟩ := h3 k hk
  exact ⟨c, by rw [e.cell_some (by rw [hc]; rfl) h2]; exact hc⟩
theorem low16 (x : Int) : ∃ v : Nat, bits .and .u32 x 65535 = (v : Int) ∧ v < 65536 := by
  refine ⟨(BitVec.ofInt 32 x &&& BitVec.ofInt 32 65535).toNat, ?_, ?_⟩
  · have h : (BitVec.ofInt 32 x &&& BitVec.ofInt 32 65535).toNat < 65536 := by
      rw [BitVec.toNat_and]
      exact Nat.lt_of_le_of_lt Nat.and_le_right (by decide)
    show IntKind.u32.wrap _ = _
    rw [IntKind.wrap_u32]
    show ((BitVec.ofInt 32 x &&& BitVec.ofInt 32 65535).toNat : Int) % 4294967296 = _
    omega
  · rw [BitVec.toNat_and]
    exact Nat.lt_of_le_of_lt Nat.and_le_right (by decide)
/-- Of the sack alone something was written. -/
def Only (s : Nat) (w w' : World) : Prop := (w'.os = w.os ∧ w'.tape = w.tape ∧ w'.output = w.output) ∧ w.heap.size ≤ w'.heap.size ∧ ∀ b, b < w.heap.size → b ≠ s → w'.heap[b]? = w.heap[b]?
theorem Only.refl (s : Nat) (w : World) : Only s w w := ⟨⟨rfl, rfl, rfl⟩, Nat.le_refl _, fun _ _ _ => rfl⟩
theorem Only.ext {s : Nat} {w w' w'' : World} (h : Only s w w') (e : Ext w' w'') : Only s w w'' :=
  ⟨⟨(Below.os e).trans h.1.1, (Below.tape e).trans h.1.2.1, (Below.output e).trans h.1.2.2⟩, Nat.le_trans h.2.1 e.size, fun b hb hs => (e.block (Nat.lt_of_lt_of_le hb h.2.1)).trans (h.2.2 b hb hs)⟩
theorem Only.set_ {s : Nat} {w w' : World} (h : Only s w w') (i : Nat) (u : Value) : Only s w (w'.setCell ⟨s, i, none⟩ u) :=
  ⟨⟨h.1.1, h.1.2.1, h.1.2.2⟩, by simpa using h.2.1, fun b hb hs => (Below.heap_setCell w' ⟨s, i, none⟩ u b hs).trans (h.2.2 b hb hs)⟩
theorem sx_of {s n cap t : Nat} {A : Option Addr} {w w' : World} {m m' : Int} (ho : Only s w w') (hk : Blk w s 158 #[.slice A n cap, .int .i64 (t : Int), .int .u32 m]) (hk' : Blk w' s 158 #[.slice A n cap, .int .i64 ((t + 1 : Nat) : Int), .int .u32 m']) : Sx ⟨s, A, n, cap⟩ 1 w w' := by
  refine ⟨ho.1, ho.2.1, ho.2.2, fun t0 ⟨m0, h0⟩ => ⟨t + 1, ?_, ?_, m', hk'⟩⟩
  all_goals
    unfold Blk at hk h0
    dsimp only at h0
    rw [hk] at h0
    simp at h0
    omega
theorem low16w (x : Int) : ∃ v : Nat, wrap64 (bits .and .u32 x 65535) = (v : Int) ∧ v < 65536 := by
  obtain ⟨v, hv, hlt⟩ := low16 x
  exact ⟨v, by rw [hv]; unfold wrap64; omega, hlt⟩
theorem handful150 {d : SackD} {w : World} {t : Nat} (hs : d.at w t) (hb : Bytes w d) (ht : t ≤ 1000000) :
    Calls Tryz.prog 150 #[.pointer (some ⟨d.blk, 0, none⟩)] w fun e w' => ∃ v : Nat, e = .returned (.int .i64 (v : Int)) ∧ v < 65536 ∧ Sx d 1 w w' := by
  obtain ⟨m, hk⟩ := hs
  obtain ⟨blk, A, n, cap⟩ := d
  dsimp only at hk ⊢
  have HK := hid hk
  have k0 := hk.cell
  have kl := hk.lt
  have kf := hk.frozen
  have h0 : n = 0 ∨ 0 < n := by omega
  rcases h0 with h0 | h0
  · subst h0
    go_enter Tryz.func150, Tryz.ntmps150
    go_upto_region 4 with fail
    refine wp_later fun w3 hw3 => ?_
    obtain ⟨m3, hm3⟩ : ∃ m3, m3 = m := ⟨_, rfl⟩
    have ho3 := (Only.refl blk w).ext hw3
    have hk3 := hk.ext hw3
    rw [← hm3] at hk3
    clear hw3 k0 kl kf hk
    have k0 := hk3.cell
    have kl := hk3.lt
    have kf := hk3.frozen
    go_upto_region 5 with fail
    refine wp_later fun w4 hw4 => ?_
    have ho4 := (ho3.set_ 1 _).ext hw4
    obtain ⟨t', ht', hk4⟩ : ∃ t' : Nat, t' = t + 1 ∧ Blk w4 blk 158 #[.slice A 0 cap, .int .i64 (t' : Int), .int .u32 m3] := ⟨t + 1, rfl, (hk3.set_ 1 _).ext hw4⟩
    clear hw4 k0 kl kf hk3
    have k0 := hk4.cell
    have kl := hk4.lt
    have kf := hk4.frozen
    refine wp_region_later (by kernel_rfl) (by kernel_rfl) ?_
    repeat (go_big_quiet_step (fail))
    refine wpQuiet_nil ?_
    rintro _ ⟨⟨w5, he5⟩, rfl⟩
    have ho5 := ho4.ext he5
    have hk5 := hk4.ext he5
    clear he5 k0 kl kf hk4
    have k0 := hk5.cell
    have kl := hk5.lt
    have kf := hk5.frozen
    by_cases hgt : 0 < t'
    · have hgi : (0 : Int) < (t' : Int) := by omega
      go_upto_region 7 with fail
      refine wp_later fun w6 hw6 => ?_
      have ho6 := (ho5.set_ 2 _).ext hw6
      obtain ⟨m6, hk6⟩ : ∃ m6 : Int, Blk w6 blk 158 #[.slice A 0 cap, .int .i64 (t' : Int), .int .u32 m6] := ⟨_, (hk5.set_ 2 _).ext hw6⟩
      clear hw6 k0 kl kf hk5
      have k0 := hk6.cell
      have kl := hk6.lt
      refine wp_region_later (by kernel_rfl) (by kernel_rfl) ?_
      repeat (go_big_quiet_step (fail))
      refine wpQuiet_nil ?_
      rintro _ ⟨⟨w7, he7⟩, rfl⟩
      go_wp2
      go_ret
      obtain ⟨v, hv, hvl⟩ := low16w (bits .xor .u32 m6 (m6 / 32768) / 256)
      subst ht'
      exact ⟨v, ret_int hv, hvl, sx_of (ho6.ext he7) HK.out (hk6.ext he7)⟩
    · omega
  · obtain ⟨b, o, hA, hne, hc⟩ := hb h0
    dsimp only at hA hne hc
    subst hA
    have hlt : t % n < n := Nat.mod_lt _ h0
    obtain ⟨c, hc0⟩ := hc (t % n) hlt
    have hne0 : (n : Int) ≠ 0 := by omega
    have hpos : (0 : Int) < n := by omega
    have hmod : Int.tmod (t : Int) (n : Int) = ((t % n : Nat) : Int) := rfl
    go_enter Tryz.func150, Tryz.ntmps150
    go_upto_region 3 with fail
    refine wp_region_tail 20 (by kernel_rfl) (by kernel_rfl) ?_
    simp only [List.take_succ_cons, List.take_zero, List.drop_succ_cons, List.drop_zero]
    repeat (go_big_quiet_step (fail))
    refine wpQuiet_nil ?_
    rintro _ ⟨⟨w2, he2⟩, rfl⟩
    have ho2 := (Only.refl blk w).ext he2
    have hk2 := hk.ext he2
    clear k0 kl kf hk hc0 hmod he2
    have k0 := hk2.cell
    have kl := hk2.lt
    have kf := hk2.frozen
    go_upto_region 4 with fail
    refine wp_later fun w3 hw3 => ?_
    have ho3 := (ho2.set_ 2 _).ext hw3
    obtain ⟨m3, hk3⟩ : ∃ m3 : Int, Blk w3 blk 158 #[.slice (some ⟨b, o, none⟩) n cap, .int .i64 (t : Int), .int .u32 m3] := ⟨_, (hk2.set_ 2 _).ext hw3⟩
    clear hw3 k0 kl kf hk2
    have k0 := hk3.cell
    have kl := hk3.lt
    have kf := hk3.frozen
    go_upto_region 5 with fail
    refine wp_later fun w4 hw4 => ?_
    have ho4 := (ho3.set_ 1 _).ext hw4
    obtain ⟨t', ht', hk4⟩ : ∃ t' : Nat, t' = t + 1 ∧ Blk w4 blk 158 #[.slice (some ⟨b, o, none⟩) n cap, .int .i64 (t' : Int), .int .u32 m3] := ⟨t + 1, rfl, (hk3.set_ 1 _).ext hw4⟩
    clear hw4 k0 kl kf hk3
    have k0 := hk4.cell
    have kl := hk4.lt
    have kf := hk4.frozen
    refine wp_region_later (by kernel_rfl) (by kernel_rfl) ?_
    repeat (go_big_quiet_step (fail))
    refine wpQuiet_nil ?_
    rintro _ ⟨⟨w5, he5⟩, rfl⟩
    have ho5 := ho4.ext he5
    have hk5 := hk4.ext he5
    clear he5 k0 kl kf hk4
    have k0 := hk5.cell
    have kl := hk5.lt
    have kf := hk5.frozen
    by_cases hgt : n < t'
    · have hgi : (n : Int) < (t' : Int) := by omega
      go_upto_region 7 with fail
      refine wp_later fun w6 hw6 => ?_
      have ho6 := (ho5.set_ 2 _).ext hw6
      obtain ⟨m6, hk6⟩ : ∃ m6 : Int, Blk w6 blk 158 #[.slice (some ⟨b, o, none⟩) n cap, .int .i64 (t' : Int), .int .u32 m6] := ⟨_, (hk5.set_ 2 _).ext hw6⟩
      clear hw6 k0 kl kf hk5
      have k0 := hk6.cell
      have kl := hk6.lt
      refine wp_region_later (by kernel_rfl) (by kernel_rfl) ?_
      repeat (go_big_quiet_step (fail))
      refine wpQuiet_nil ?_
      rintro _ ⟨⟨w7, he7⟩, rfl⟩
      go_wp2
      go_ret
      obtain ⟨v, hv, hvl⟩ := low16w (bits .xor .u32 m6 (m6 / 32768) / 256)
      subst ht'
      exact ⟨v, ret_int hv, hvl, sx_of (ho6.ext he7) HK.out (hk6.ext he7)⟩
    · have hgi : ¬ (n : Int) < (t' : Int) := by omega
      go_upto_region 7 with fail
      refine wp_region_later (by kernel_rfl) (by kernel_rfl) ?_
      repeat (go_big_quiet_step (fail))
      refine wpQuiet_nil ?_
      rintro _ ⟨⟨w7, he7⟩, rfl⟩
      go_wp2
      go_ret
      obtain ⟨v, hv, hvl⟩ := low16w (bits .xor .u32 m3 (m3 / 32768) / 256)
      subst ht'
      exact ⟨v, ret_int hv, hvl, sx_of (ho5.ext he7) HK.out (hk5.ext he7)⟩
theorem below67 {d : SackD} {w : World} {t : Nat} (hs : d.at w t) (hb : Bytes w d) (ht : t ≤ 1000000) (n : Int) (hn : n ≤ 65536) :
    Calls Tryz.prog 67 #[.pointer (some ⟨d.blk, 0, none⟩), .int .i64 n] w fun e w' => ∃ v : Nat, e = .returned (.int .i64 (v : Int)) ∧ (v = 0 ∨ (v : Int) < n) ∧ Sx d 1 w w' := by
  have HS := hid hs
  clear hs
  by_cases h1 : 1 < n
  · obtain ⟨q, rfl⟩ := Int.eq_ofNat_of_zero_le (show 0 ≤ n by omega)
    have hq1 : 0 < q := by omega
    go_enter Tryz.func67, Tryz.ntmps67
    go_wp2_with (go_at_call 150; refine (handful150 HS.out hb ht).mono ?_; rintro e w1 ⟨v, rfl, hv, hx⟩; have hvq := Nat.mod_lt v hq1; have hne : (q : Int) ≠ 0 := by omega)
    go_ret
    exact ⟨v % q, rfl, .inr (by omega), hx⟩
  · go_enter Tryz.func67, Tryz.ntmps67
    go_wp2_with (go_at_call 150; refine (handful150 HS.out hb ht).mono ?_; rintro e w1 ⟨v, rfl, hv, hx⟩)
    go_ret
    exact ⟨0, rfl, .inl rfl, hx⟩
theorem rare107 {d : SackD} {w : World} {t : Nat} (hs : d.at w t) (hb : Bytes w d) (ht : t ≤ 1000000) (n : Int) (hn : n ≤ 65536) :
    Calls Tryz.prog 107 #[.pointer (some ⟨d.blk, 0, none⟩), .int .i64 n] w fun e w' => ∃ b : Bool, e = .returned (.bool b) ∧ Sx d 1 w w' := by
  have HS := hid hs
  clear hs
  go_enter Tryz.func107, Tryz.ntmps107
  go_wp2_with (go_at_call 67; refine (below67 HS.out hb ht n hn).mono ?_; rintro e w1 ⟨v, rfl, hv, hx⟩)
  go_ret
  exact ⟨_, rfl, hx⟩
theorem among71 {d : SackD} {w : World} {t : Nat} (hs : d.at w t) (hb : Bytes w d) (ht : t ≤ 1000000) (lo hi : Int) (h1 : -60000 ≤ lo ∧ lo ≤ 60000) (h2 : -60000 ≤ hi ∧ hi ≤ 60000) (h3 : hi - lo < 65536) :
    Calls Tryz.prog 71 #[.pointer (some ⟨d.blk, 0, none⟩), .int .i64 lo, .int .i64 hi] w fun e w' => ∃ v : Int, e = .returned (.int .i64 v) ∧ lo ≤ v ∧ (v = lo ∨ v ≤ hi) ∧ Sx d 1 w w' := by
  have HS := hid hs
  clear hs
  go_enter Tryz.func71, Tryz.ntmps71
  go_wp2_with (go_at_call 67; refine (below67 HS.out hb ht (hi - lo + 1) (by omega)).mono ?_; rintro e w1 ⟨v, rfl, hv, hx⟩; have hvb : (v : Int) ≤ 200000 := by omega)
  go_ret
  exact ⟨lo + v, rfl, by omega, by omega, hx⟩
theorem fill31 {A : Option Addr} {n cap : Nat} (w : World) : Calls Tryz.prog 31 #[.slice A n cap] w fun e w' => e = .returned (.pointer (some ⟨w.heap.size, 0, none⟩)) ∧ Ext w w' ∧ SackD.at ⟨w.heap.size, A, n, cap⟩ w' 0 := by
  go_enter Tryz.func31, Tryz.ntmps31
  go_wp2
  go_ret
  exact ⟨rfl, (Ext.refl _).alloc _, _, Blk.new _ _ _⟩
/-- A sack that has just been filled. -/
def Start (d : SackD) (w : World) : Prop := d.at w 0 ∧ Bytes w d
theorem Start.lt {d : SackD} {w : World} (h : Start d w) : d.blk < w.heap.size := by
  obtain ⟨⟨m, hk⟩, -⟩ := h
  exact hk.lt
theorem Start.at_ {d : SackD} {w W : World} {k : Nat} (h : Start d w) (x : Sx d k w W) (hk : k ≤ 1000000) : ∃ t, t ≤ 1000000 ∧ d.at W t := by
  obtain ⟨t, h1, h2, h3⟩ := x.2.2.2 0 h.1
  exact ⟨t, by omega, h3⟩
theorem below_b {d : SackD} {w W : World} {k : Nat} (h : Start d w) (x : Sx d k w W) (hk : k ≤ 1000000) (n : Int) (hn : n ≤ 65536) :
    Calls Tryz.prog 67 #[.pointer (some ⟨d.blk, 0, none⟩), .int .i64 n] W fun e w' => ∃ v : Nat, e = .returned (.int .i64 (v : Int)) ∧ (v = 0 ∨ (v : Int) < n) ∧ Sx d 1 W w' := by
  obtain ⟨t, h1, h2⟩ := h.at_ x hk
  exact below67 h2 (h.2.sx x) h1 n hn
theorem rare_b {d : SackD} {w W : World} {k : Nat} (h : Start d w) (x : Sx d k w W) (hk : k ≤ 1000000) (n : Int) (hn : n ≤ 65536) :
    Calls Tryz.prog 107 #[.pointer (some ⟨d.blk, 0, none⟩), .int .i64 n] W fun e w' => ∃ b : Bool, e = .returned (.bool b) ∧ Sx d 1 W w' := by
  obtain ⟨t, h1, h2⟩ := h.at_ x hk
  exact rare107 h2 (h.2.sx x) h1 n hn
theorem among_b {d : SackD} {w W : World} {k : Nat} (h : Start d w) (x : Sx d k w W) (hk : k ≤ 1000000) (lo hi : Int) (h1 : -60000 ≤ lo ∧ lo ≤ 60000) (h2 : -60000 ≤ hi ∧ hi ≤ 60000) (h3 : hi - lo < 65536) :
    Calls Tryz.prog 71 #[.pointer (some ⟨d.blk, 0, none⟩), .int .i64 lo, .int .i64 hi] W fun e w' => ∃ v : Int, e = .returned (.int .i64 v) ∧ lo ≤ v ∧ (v = lo ∨ v ≤ hi) ∧ Sx d 1 W w' := by
  obtain ⟨t, h4, h5⟩ := h.at_ x hk
  exact among71 h5 (h.2.sx x) h4 lo hi h1 h2 h3
end Go.Proofs.YtbceepjjdfpfmaaGreat
