/- Bytes that come in as data, and a sack that is filled of them. -/
import Derived.Test.YtbceepjjdfpfmaaGreatDraw
import Derived.Test.YtbceepjjdfpfmaaGreatOpen
namespace Go.Proofs.YtbceepjjdfpfmaaGreat
open Go.RowKit HandSpec LoanSpec Go.ChangeShapes Go.WideShapes Go.Deep
set_option maxRecDepth 100000
/-- A slice of bytes. -/
def ByteS (w : World) (A : Option Addr) (n : Nat) : Prop := 0 < n → ∃ b o, A = some ⟨b, o, none⟩ ∧ b < w.heap.size ∧ ∀ k, k < n → ∃ c : Int, w.cell? ⟨b, o + k, none⟩ = some (.int .u8 c)
theorem ByteS.ext {w w' : World} {A : Option Addr} {n : Nat} (h : ByteS w A n) (e : Ext w w') : ByteS w' A n := fun hn => by
  obtain ⟨b, o, h1, h2, h3⟩ := h hn
  exact ⟨b, o, h1, Nat.lt_of_lt_of_le h2 e.size, fun k hk => by
    obtain ⟨c, hc⟩ := h3 k hk
    exact ⟨c, e.some_ hc⟩⟩
/-- A sack is filled of them. -/
theorem start_of {w w' : World} {A : Option Addr} {n cap : Nat} (h : ByteS w A n) (e : Ext w w') (hs : SackD.at ⟨w.heap.size, A, n, cap⟩ w' 0) : Start ⟨w.heap.size, A, n, cap⟩ w' :=
  ⟨hs, fun hn => by
    obtain ⟨b, o, h1, h2, h3⟩ := h hn
    exact ⟨b, o, h1, by show b ≠ w.heap.size; omega, fun k hk => by
      obtain ⟨c, hc⟩ := h3 k hk
      exact ⟨c, e.some_ hc⟩⟩⟩
theorem u8_nat {n : Int} (h : (Lit.int .u8 n).wf = true) : ∃ j : Nat, n = (j : Int) ∧ j < 256 := by
  simp only [Lit.wf, Bool.and_eq_true, decide_eq_true_eq] at h
  have h1 : (0 : Int) ≤ n := h.1
  have h2 : n ≤ 255 := h.2
  exact ⟨n.toNat, by omega, by omega⟩
section
variable {H : Type} {enc : TypeId × Value → H} {w : World} {base : Nat} {spare : Nat → Bool} {held : Bool}
theorem cells5 : Tryz.prog.cellsOf 5 = 1 := by kernel_rfl
theorem open54 {r : Reach} {b0 : Nat} {v : Value} {d : DataW H} {p : List MemPlace} (hv : Value.okWide Tryz.prog w r b0 54 v) (h : DataW.Trod enc Tryz.prog w base spare held 54 v d p) : ∃ A n cap, v = .slice A n cap ∧ ByteS w A n := by
  obtain ⟨a, len, cap, rfl⟩ := okWide_slice Tryz.underlying54 hv
  obtain ⟨fuel, hf⟩ := h
  refine ⟨a, len, cap, rfl, fun h0 => ?_⟩
  rcases open_slice Tryz.underlying54 hf with ⟨e, -⟩ | ⟨a', len', cap', m, n, D, Pl, e, -, hl, -, hm, -, hel⟩
  · simp [Value.cells] at e; omega
  · simp [Value.cells] at e
    obtain ⟨rfl, rfl, rfl⟩ := e
    have hlm : len ≤ m := by rw [hm]; split <;> omega
    rw [cells5] at hel
    have hc : ∀ i, i < m → ∃ z, w.cell? ((a'.add (i * 1)).add 0) = some (.int .u8 z) := fun i hi => by
      obtain ⟨cs, h1, h2⟩ := hel i hi
      obtain ⟨z, rfl, -⟩ := DataW.trod_int Tryz.underlying5 h2
      exact ⟨z, (World.cells?_some h1).2.2 0 (by simp)⟩
    obtain ⟨b, o, spot⟩ := a'
    obtain ⟨z, hz⟩ := hc 0 (by omega)
    have hspot : spot = none := by simpa [Addr.add] using World.cell?_spot hz
    subst hspot
    have hat : ∀ i, i < m → ∃ z, w.cell? ⟨b, o + i, none⟩ = some (.int .u8 z) := fun i hi => by
      obtain ⟨z, hz⟩ := hc i hi
      rw [Go.WideShapes.add_plain, Go.WideShapes.add_plain, Nat.mul_one] at hz
      exact ⟨z, hz⟩
    obtain ⟨z0, hz0⟩ := hat 0 (by omega)
    exact ⟨b, o, rfl, World.block_lt_of_cell? w _ hz0, fun k hk => hat k (by omega)⟩
end
end Go.Proofs.YtbceepjjdfpfmaaGreat
