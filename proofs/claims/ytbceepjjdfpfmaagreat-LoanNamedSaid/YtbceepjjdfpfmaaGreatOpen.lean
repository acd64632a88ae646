/- What a ledger, debts and lists are in memory, when they come in as data. No condition. Bytes that come in as data, and a sack that is filled of them. -/
import Derived.Test.YtbceepjjdfpfmaaGreatRefA
import Derived.Test.YtbceepjjdfpfmaaGreatNest
import Derived.Deep.Slices
import Derived.ChangeSame
import Derived.Carry
import Derived.Test.YtbceepjjdfpfmaaGreatDraw
namespace Go.Proofs.YtbceepjjdfpfmaaGreat
open Go.RowKit HandSpec LoanSpec Go.ChangeShapes Go.WideShapes Go.Deep
set_option maxRecDepth 100000
section
variable {H : Type} {enc : TypeId × Value → H} {w : World} {base : Nat} {spare : Nat → Bool} {held : Bool}
/-- Values that are numbers. -/
def IntsAt (c : Nat) (cs : List Value) : Prop := cs.length = c ∧ ∀ j, j < c → ∃ z, cs[j]? = some (.int .i64 z)
theorem ints3 {f : Nat} {cs : List Value} {x : DataW H × List MemPlace} (h : DataW.trod enc Tryz.prog w base spare held f 3 cs = some x) : IntsAt 1 cs := by
 obtain ⟨n, rfl, -, -⟩ := DataW.trod_int Tryz.underlying3 h
 refine ⟨rfl, fun j hj => ⟨n, ?_⟩⟩
 obtain rfl : j = 0 := by omega
 rfl
theorem cells3 : Tryz.prog.cellsOf 3 = 1 := by kernel_rfl
/-- A struct of numbers, by its fields. -/
theorem ints_struct {t : TypeId} {fs : Array Field} {c : Nat} (ht : Tryz.prog.underlying t = some (.struct fs)) (hc : Tryz.prog.cellsOf t = c)
  (hfs : ∀ j, j < c → ∃ (i : Nat) (f : Field) (q : Nat), fs[i]? = some f ∧ f.offset ≤ j ∧ j < f.offset + Tryz.prog.cellsOf f.type ∧ Tryz.prog.cellsOf f.type = q ∧ ∀ (n : Nat) (cs : List Value) (x : DataW H × List MemPlace), DataW.trod enc Tryz.prog w base spare held n f.type cs = some x → IntsAt q cs)
  {n : Nat} {cs : List Value} {x : DataW H × List MemPlace} (h : DataW.trod enc Tryz.prog w base spare held n t cs = some x) : IntsAt c cs := by
 obtain ⟨xs, n', -, -, hl, hlen, hf⟩ := DataW.trod_struct ht h
 refine ⟨hl.trans hc, fun j hj => ?_⟩
 obtain ⟨i, f, q, hi, h1, h2, hq, h3⟩ := hfs j hj
 have hil : i < xs.length := by rw [hlen]; exact (Array.getElem?_eq_some_iff.1 hi).1
 have h4 := hf i f hi
 rw [List.getElem?_eq_getElem hil] at h4
 obtain ⟨h5, h6⟩ := h3 _ _ _ h4
 obtain ⟨z, hz⟩ := h6 (j - f.offset) (by omega)
 refine ⟨z, ?_⟩
 rw [List.getElem?_take_of_lt (by omega), List.getElem?_drop] at hz
 rw [show f.offset + (j - f.offset) = j by omega] at hz
 exact hz
theorem cells64 : Tryz.prog.cellsOf 64 = 3 := by kernel_rfl
theorem ints64 {n : Nat} {cs : List Value} {x : DataW H × List MemPlace} (h : DataW.trod enc Tryz.prog w base spare held n 64 cs = some x) : IntsAt 3 cs :=
 ints_struct Tryz.underlying64 cells64 (fun j hj => by
  match j, hj with
  | 0, _ => exact ⟨0, _, 1, rfl, by simp, by simp [cells3], cells3, fun _ _ _ h => ints3 h⟩
  | 1, _ => exact ⟨1, _, 1, rfl, by simp, by simp [cells3], cells3, fun _ _ _ h => ints3 h⟩
  | 2, _ => exact ⟨2, _, 1, rfl, by simp, by simp [cells3], cells3, fun _ _ _ h => ints3 h⟩) h
theorem cells68 : Tryz.prog.cellsOf 68 = 3 := by kernel_rfl
theorem ints68 {n : Nat} {cs : List Value} {x : DataW H × List MemPlace} (h : DataW.trod enc Tryz.prog w base spare held n 68 cs = some x) : IntsAt 3 cs :=
 ints_struct Tryz.underlying68 cells68 (fun j hj => by
  match j, hj with
  | 0, _ => exact ⟨0, _, 1, rfl, by simp, by simp [cells3], cells3, fun _ _ _ h => ints3 h⟩
  | 1, _ => exact ⟨1, _, 1, rfl, by simp, by simp [cells3], cells3, fun _ _ _ h => ints3 h⟩
  | 2, _ => exact ⟨2, _, 1, rfl, by simp, by simp [cells3], cells3, fun _ _ _ h => ints3 h⟩) h
theorem cells71 : Tryz.prog.cellsOf 71 = 3 := by kernel_rfl
theorem ints71 {n : Nat} {cs : List Value} {x : DataW H × List MemPlace} (h : DataW.trod enc Tryz.prog w base spare held n 71 cs = some x) : IntsAt 3 cs :=
 ints_struct Tryz.underlying71 cells71 (fun j hj => by
  match j, hj with
  | 0, _ => exact ⟨0, _, 1, rfl, by simp, by simp [cells3], cells3, fun _ _ _ h => ints3 h⟩
  | 1, _ => exact ⟨1, _, 1, rfl, by simp, by simp [cells3], cells3, fun _ _ _ h => ints3 h⟩
  | 2, _ => exact ⟨2, _, 1, rfl, by simp, by simp [cells3], cells3, fun _ _ _ h => ints3 h⟩) h
/-- A slice of such elements reads as rows of numbers. -/
theorem open_rd {t e : TypeId} {c f : Nat} (hc0 : 0 < c) {cs : List Value} {x : DataW H × List MemPlace} (ht : Tryz.prog.underlying t = some (.slice e)) (hc : Tryz.prog.cellsOf e = c)
  (hi : ∀ (n : Nat) (cs : List Value) (x : DataW H × List MemPlace), DataW.trod enc Tryz.prog w base spare held n e cs = some x → IntsAt c cs)
  (h : DataW.trod enc Tryz.prog w base spare held f t cs = some x) : ∃ A n cap g, cs = [.slice A n cap] ∧ Rd w A n c g := by
 rcases open_slice ht h with ⟨rfl, -⟩ | ⟨a, len, cap, m, n, D, Pl, rfl, -, hl, -, hm, -, hel⟩
 ·exact ⟨none, 0, 0, fun _ _ => 0, rfl, Rd.nil⟩
 ·have hlm : len ≤ m := by rw [hm]; split <;> omega
  rw [hc] at hel
  obtain ⟨cs', hcs⟩ := choose_lt (α := List Value) (p := fun i cs => w.cells? base (a.add (i * c)) c = some cs ∧ DataW.trod enc Tryz.prog w base spare held n e cs = some (D i, Pl i)) hel
  have hz : ∀ i, i < m → ∀ j, j < c → ∃ z, (cs' i)[j]? = some (.int .i64 z) := fun i him => (hi _ _ _ (hcs i him).2).2
  refine ⟨some a, len, cap, fun i j => match (cs' i)[j]? with
   | some (.int _ z) => z
   | _ => 0, rfl, fun h0 => ?_⟩
  have hat : ∀ i, i < m → ∀ j, j < c → w.cell? ((a.add (i * c)).add j) = (cs' i)[j]? := fun i him => (World.cells?_some (hcs i him).1).2.2
  obtain ⟨b, o, spot⟩ := a
  obtain ⟨z, hz0⟩ := hz 0 (by omega) 0 hc0
  have h00 := hat 0 (by omega) 0 hc0
  rw [hz0] at h00
  have hspot : spot = none := by simpa [Addr.add] using World.cell?_spot h00
  subst hspot
  refine ⟨b, o, rfl, fun i hi' j hj => ?_⟩
  have h1 := hat i (by omega) j hj
  obtain ⟨z, hz1⟩ := hz i (by omega) j hj
  rw [Go.WideShapes.add_plain, Go.WideShapes.add_plain] at h1
  rw [h1, hz1]
  simp [hz1]
theorem cells22 : Tryz.prog.cellsOf 22 = 1 := by kernel_rfl
theorem cells23 : Tryz.prog.cellsOf 23 = 1 := by kernel_rfl
theorem cells24 : Tryz.prog.cellsOf 24 = 1 := by kernel_rfl
theorem cells25 : Tryz.prog.cellsOf 25 = 1 := by kernel_rfl
theorem cells27 : Tryz.prog.cellsOf 27 = 7 := by kernel_rfl
/-- A ledger. -/
theorem open27 {r : Reach} {b0 : Nat} {v : Value} {d : DataW H} {p : List MemPlace} (hv : Value.okWide Tryz.prog w r b0 27 v) (h : DataW.Trod enc Tryz.prog w base spare held 27 v d p) : ∃ x, IsL w v x := by
 obtain ⟨⟨l⟩, rfl, hsz⟩ := okWide_struct Tryz.underlying27 hv
 rw [cells27] at hsz
 match l, hsz with
 | [c0, c1, c2, c3, c4, c5, c6], _ =>
  obtain ⟨fuel, hf⟩ := h
  obtain ⟨xs, n, _, _, _, hlen, hg⟩ := DataW.trod_struct Tryz.underlying27 hf
  match xs, hlen with
  | [y0, y1, y2, y3, y4, y5, y6], _ =>
   have g0 := hg 0 _ rfl
   have g1 := hg 1 _ rfl
   have g2 := hg 2 _ rfl
   have g3 := hg 3 _ rfl
   have g4 := hg 4 _ rfl
   have g5 := hg 5 _ rfl
   have g6 := hg 6 _ rfl
   obtain ⟨n0, e0, -⟩ := DataW.trod_int Tryz.underlying3 g0
   obtain ⟨n1, e1, -⟩ := DataW.trod_int Tryz.underlying3 g1
   obtain ⟨A1, m1, q1, s1, e2, r1⟩ := open_rd (by omega) Tryz.underlying22 cells3 (fun _ _ _ h => ints3 h) g2
   obtain ⟨A2, m2, q2, s2, e3, r2⟩ := open_rd (by omega) Tryz.underlying22 cells3 (fun _ _ _ h => ints3 h) g3
   obtain ⟨A3, m3, q3, s3, e4, r3⟩ := open_rd (by omega) Tryz.underlying23 cells68 (fun _ _ _ h => ints68 h) g4
   obtain ⟨A4, m4, q4, s4, e5, r4⟩ := open_rd (by omega) Tryz.underlying24 cells71 (fun _ _ _ h => ints71 h) g5
   obtain ⟨A5, m5, q5, s5, e6, r5⟩ := open_rd (by omega) Tryz.underlying25 cells64 (fun _ _ _ h => ints64 h) g6
   simp [cells3, cells22, cells23, cells24, cells25, Value.cells] at e0 e1 e2 e3 e4 e5 e6
   subst e0 e1 e2 e3 e4 e5 e6
   exact ⟨⟨n0, n1, m1, m2, m3, m4, m5, fun k => s1 k 0, fun k => s2 k 0, s3, s4, s5⟩, A1, q1, A2, q2, A3, q3, A4, q4, A5, q5, rfl, r1.congr fun i hi j hj => by rw [show j = 0 by omega], r2.congr fun i hi j hj => by rw [show j = 0 by omega], r3, r4, r5⟩
/-- A list of numbers. -/
theorem open22 {r : Reach} {b0 : Nat} {v : Value} {d : DataW H} {p : List MemPlace} (hv : Value.okWide Tryz.prog w r b0 22 v) (h : DataW.Trod enc Tryz.prog w base spare held 22 v d p) : ∃ A n cap g, v = .slice A n cap ∧ Rd w A n 1 g := by
 obtain ⟨a, len, cap, rfl⟩ := okWide_slice Tryz.underlying22 hv
 obtain ⟨fuel, hf⟩ := h
 obtain ⟨A, n, q, g, e, hr⟩ := open_rd (by omega) Tryz.underlying22 cells3 (fun _ _ _ h => ints3 h) hf
 simp [Value.cells] at e
 obtain ⟨rfl, rfl, rfl⟩ := e
 exact ⟨_, _, _, g, rfl, hr⟩
/-- A list of promises. -/
theorem open25 {r : Reach} {b0 : Nat} {v : Value} {d : DataW H} {p : List MemPlace} (hv : Value.okWide Tryz.prog w r b0 25 v) (h : DataW.Trod enc Tryz.prog w base spare held 25 v d p) : ∃ A n cap g, v = .slice A n cap ∧ Rd w A n 3 g := by
 obtain ⟨a, len, cap, rfl⟩ := okWide_slice Tryz.underlying25 hv
 obtain ⟨fuel, hf⟩ := h
 obtain ⟨A, n, q, g, e, hr⟩ := open_rd (by omega) Tryz.underlying25 cells64 (fun _ _ _ h => ints64 h) hf
 simp [Value.cells] at e
 obtain ⟨rfl, rfl, rfl⟩ := e
 exact ⟨_, _, _, g, rfl, hr⟩
/-- A slice of lists of numbers. -/
theorem open_rdn {t f : Nat} {cs : List Value} {x : DataW H × List MemPlace} (ht : Tryz.prog.underlying t = some (.slice 22)) (h : DataW.trod enc Tryz.prog w base spare held f t cs = some x) : ∃ A n cap m g, cs = [.slice A n cap] ∧ RdN w A n m g ∧ n ≤ maxLen := by
 rcases open_slice ht h with ⟨rfl, -⟩ | ⟨a, len, cap, m, n, D, Pl, rfl, -, hl, hcm, hm, -, hel⟩
 ·exact ⟨none, 0, 0, fun _ => 0, fun _ _ => 0, rfl, RdN.nil, Nat.zero_le _⟩
 ·have hlm : len ≤ m := by rw [hm]; split <;> omega
  rw [cells22] at hel
  obtain ⟨cs', hcs⟩ := choose_lt (α := List Value) (p := fun i cs => w.cells? base (a.add (i * 1)) 1 = some cs ∧ DataW.trod enc Tryz.prog w base spare held n 22 cs = some (D i, Pl i)) hel
  have hz : ∀ i, i < m → ∃ A q c g, cs' i = [.slice A q c] ∧ Rd w A q 1 g := fun i him => open_rd (by omega) Tryz.underlying22 cells3 (fun _ _ _ h => ints3 h) (hcs i him).2
  obtain ⟨R, hR⟩ := choose_lt (α := Option Addr × Nat × Nat × (Nat → Nat → Int)) (p := fun i R => cs' i = [.slice R.1 R.2.1 R.2.2.1] ∧ Rd w R.1 R.2.1 1 R.2.2.2) (fun i hi => by
   obtain ⟨A, q, c, g, h1, h2⟩ := hz i hi
   exact ⟨(A, q, c, g), h1, h2⟩)
  refine ⟨some a, len, cap, fun i => (R i).2.1, fun i j => (R i).2.2.2 j 0, rfl, ⟨fun i => (R i).1, fun i => (R i).2.2.1, fun h0 => ?_, fun k hk => ((hR k (by omega)).2).congr fun i hi j hj => by rw [show j = 0 by omega]⟩, Nat.le_trans hl hcm⟩
  have hat : ∀ i, i < m → w.cell? (a.add i) = some (.slice (R i).1 (R i).2.1 (R i).2.2.1) := fun i him => by
   have h1 := (World.cells?_some (hcs i him).1).2.2 0 (by omega)
   rw [(hR i him).1] at h1
   rw [Nat.mul_one] at h1
   have e0 : (a.add i).add 0 = a.add i := by
    obtain ⟨b, o, spot⟩ := a
    unfold Addr.add
    by_cases h0 : i = 0 <;> simp [h0]
   rw [e0] at h1
   simpa using h1
  obtain ⟨b, o, spot⟩ := a
  have h00 := hat 0 (by omega)
  have hspot : spot = none := by
   have h2 : w.cell? ⟨b, o, spot⟩ = some (.slice (R 0).1 (R 0).2.1 (R 0).2.2.1) := by simpa [Addr.add] using h00
   exact World.cell?_spot h2
  subst hspot
  refine ⟨b, o, rfl, fun i hi' => ?_⟩
  have h1 := hat i (by omega)
  rw [Go.WideShapes.add_plain] at h1
  exact h1
/-- Debts. -/
theorem open48 {r : Reach} {b0 : Nat} {v : Value} {d : DataW H} {p : List MemPlace} (hv : Value.okWide Tryz.prog w r b0 48 v) (h : DataW.Trod enc Tryz.prog w base spare held 48 v d p) : ∃ A n cap m g, v = .slice A n cap ∧ RdN w A n m g ∧ n ≤ maxLen := by
 obtain ⟨a, len, cap, rfl⟩ := okWide_slice Tryz.underlying48 hv
 obtain ⟨fuel, hf⟩ := h
 obtain ⟨A, n, q, m, g, e, hr, hl⟩ := open_rdn Tryz.underlying48 hf
 simp [Value.cells] at e
 obtain ⟨rfl, rfl, rfl⟩ := e
 exact ⟨_, _, _, m, g, rfl, hr, hl⟩
/-- Groups. -/
theorem open39 {r : Reach} {b0 : Nat} {v : Value} {d : DataW H} {p : List MemPlace} (hv : Value.okWide Tryz.prog w r b0 39 v) (h : DataW.Trod enc Tryz.prog w base spare held 39 v d p) : ∃ A n cap m g, v = .slice A n cap ∧ RdN w A n m g ∧ n ≤ maxLen := by
 obtain ⟨a, len, cap, rfl⟩ := okWide_slice Tryz.underlying39 hv
 obtain ⟨fuel, hf⟩ := h
 obtain ⟨A, n, q, m, g, e, hr, hl⟩ := open_rdn Tryz.underlying39 hf
 simp [Value.cells] at e
 obtain ⟨rfl, rfl, rfl⟩ := e
 exact ⟨_, _, _, m, g, rfl, hr, hl⟩
/-- Behind a call that makes memory alone, each argument reads as it did. -/
theorem post_later {P : Program} {f : Func} {s : ChangeSpec} {apart fresh handsOn again : Bool} {W W' : World} {args : Array Value} {v : Value} {ds gs : List (DataW H)} {before pa pv : List MemPlace}
  (hW : DataW.Whole enc P f.params.toList s.vars apart W args.toList ds gs before)
  (hres : ∀ (b : Nat) (sp : Nat → Bool) (hd : Bool), DataW.TrodAll enc P W' b sp hd f.resultTypes.toList (v.resultList f.resultTypes.size) (s.fn H (ds ++ gs)).results [])
  (hargs : ∀ sp : Nat → Bool, (∀ p ∈ before, sp p.block = true) → DataW.TrodAll enc P W' 0 sp true f.params.toList args.toList (s.fn H (ds ++ gs)).args pa)
  (hvars : ∀ sp : Nat → Bool, (∀ p ∈ before, sp p.block = true) → DataW.TrodVars enc P W' sp s.vars (s.fn H (ds ++ gs)).vars pv)
  (hps : before = pa ++ pv) (hb : Ext W W')
  (hok : ∀ (j : Nat) (t : TypeId) (r : Value), f.resultTypes[j]? = some t → (v.resultList f.resultTypes.size)[j]? = some r → Value.okWide P W' .any 0 t r) :
  s.post enc P f apart fresh handsOn again W args v W' := by
 have hlt : ∀ p ∈ before, p.block < W.heap.size := fun p hp => hW.lt p hp
 have hold : ∀ p ∈ before, (fun b => decide (b < W.heap.size)) p.block = true := fun p hp => by simpa using hlt p hp
 refine ⟨ds, gs, before, [], pa, pv, hW, hres _ _ _, hargs _ hold, hvars _ hold, World.keptBut_mono (fun p hp => ⟨hp, ?_⟩) (Below.frame hb (· ∈ before)), fun _ => ?_⟩
 ·rw [hps, List.mem_append] at hp
  exact Or.inr hp
 ·obtain ⟨_, _, _, _, _, hz, hn⟩ := hW
  refine ⟨hok, _, _, ([] ++ pa) ++ pv, ⟨[] ++ pa, pv, trodAll_append (hargs _ (fun _ _ => rfl)) (hres _ _ _), hvars _ (fun _ _ => rfl), rfl, fun b off hp => ?_, fun ha => ?_⟩, fun p hp _ => ?_⟩
  ·have hin : MemPlace.cell b off ∈ before := by rw [hps]; simpa using hp
   rw [Below.frozen hb (hlt _ hin)]
   exact hz b off hin
  ·have := hn ha
   rw [hps] at this
   simpa using this
  ·rw [hps]
   simpa using hp
theorem laidOut : laidOutB Tryz.prog = true := by kernel_rfl
/-- The arguments read as they did, in a later world. -/
theorem stays {W W' : World} (hb : Ext W W') {sp : Nat → Bool} : ∀ {ts : List TypeId} {vs : List Value} {ds : List (DataW H)} {ps : List MemPlace}, (∀ t ∈ ts, Tryz.prog.readableRec t = true ∧ t < Tryz.prog.types.size) →
  DataW.TrodAll enc Tryz.prog W 0 (fun _ => true) true ts vs ds ps → (∀ p ∈ ps, p.block < W.heap.size) → (∀ p ∈ ps, sp p.block = true) → DataW.TrodAll enc Tryz.prog W' 0 sp true ts vs ds ps
 | [], [], [], _, _, h, _, _ => h
 | t :: ts, _ :: _, _ :: _, _, hT, ⟨p, q, h1, h2, e⟩, hlt, hs => by
  subst e
  have ht := hT t (List.mem_cons_self ..)
  exact ⟨p, q, WideElems.Trod_stays laidOut ht.1 ht.2 h1 (fun x hx => Below.same hb (hlt x (List.mem_append_left _ hx))) (fun x hx => hs x (List.mem_append_left _ hx)),
   stays hb (fun t ht => hT t (List.mem_cons_of_mem _ ht)) h2 (fun x hx => hlt x (List.mem_append_right _ hx)) (fun x hx => hs x (List.mem_append_right _ hx)), rfl⟩
end
end Go.Proofs.YtbceepjjdfpfmaaGreat
namespace Go.Proofs.YtbceepjjdfpfmaaGreat
open Go.RowKit HandSpec LoanSpec Go.ChangeShapes Go.WideShapes Go.Deep
set_option maxRecDepth 100000
/-- A slice of bytes. -/
def ByteS (w : World) (A : Option Addr) (n : Nat) : Prop := 0 < n → ∃ b o, A = some ⟨b, o, none⟩ ∧ b < w.heap.size ∧ ∀ k, k < n → ∃ c : Int, w.cell? ⟨b, o + k, none⟩ = some (.int .u8 c)
theorem ByteS.ext {w w' : World} {A : Option Addr} {n : Nat} (h : ByteS w A n) (e : Ext w w') : ByteS w' A n := fun hn => by
  obtain ⟨b, o, h1, h2, h3⟩ := h hn
  exact ⟨b, o, h1, Nat.lt_of_lt_of_le h2 e.size, fun k hk => by
    obtain ⟨c, hc⟩ := h3 k hk
    exact ⟨c, e.some_ hc⟩⟩
/-- A sack is filled of them. -/
theorem start_of {w w' : World} {A : Option Addr} {n cap : Nat} (h : ByteS w A n) (e : Ext w w') (hs : SackD.at ⟨w.heap.size, A, n, cap⟩ w' 0) : Start ⟨w.heap.size, A, n, cap⟩ w' :=
  ⟨hs, fun hn => by
    obtain ⟨b, o, h1, h2, h3⟩ := h hn
    exact ⟨b, o, h1, by show b ≠ w.heap.size; omega, fun k hk => by
      obtain ⟨c, hc⟩ := h3 k hk
      exact ⟨c, e.some_ hc⟩⟩⟩
theorem u8_nat {n : Int} (h : (Lit.int .u8 n).wf = true) : ∃ j : Nat, n = (j : Int) ∧ j < 256 := by
  simp only [Lit.wf, Bool.and_eq_true, decide_eq_true_eq] at h
  have h1 : (0 : Int) ≤ n := h.1
  have h2 : n ≤ 255 := h.2
  exact ⟨n.toNat, by omega, by omega⟩
section
variable {H : Type} {enc : TypeId × Value → H} {w : World} {base : Nat} {spare : Nat → Bool} {held : Bool}
theorem cells5 : Tryz.prog.cellsOf 5 = 1 := by kernel_rfl
theorem open54 {r : Reach} {b0 : Nat} {v : Value} {d : DataW H} {p : List MemPlace} (hv : Value.okWide Tryz.prog w r b0 54 v) (h : DataW.Trod enc Tryz.prog w base spare held 54 v d p) : ∃ A n cap, v = .slice A n cap ∧ ByteS w A n := by
  obtain ⟨a, len, cap, rfl⟩ := okWide_slice Tryz.underlying54 hv
  obtain ⟨fuel, hf⟩ := h
  refine ⟨a, len, cap, rfl, fun h0 => ?_⟩
  rcases open_slice Tryz.underlying54 hf with ⟨e, -⟩ | ⟨a', len', cap', m, n, D, Pl, e, -, hl, -, hm, -, hel⟩
  · simp [Value.cells] at e; omega
  · simp [Value.cells] at e
    obtain ⟨rfl, rfl, rfl⟩ := e
    have hlm : len ≤ m := by rw [hm]; split <;> omega
    rw [cells5] at hel
    have hc : ∀ i, i < m → ∃ z, w.cell? ((a'.add (i * 1)).add 0) = some (.int .u8 z) := fun i hi => by
      obtain ⟨cs, h1, h2⟩ := hel i hi
      obtain ⟨z, rfl, -⟩ := DataW.trod_int Tryz.underlying5 h2
      exact ⟨z, (World.cells?_some h1).2.2 0 (by simp)⟩
    obtain ⟨b, o, spot⟩ := a'
    obtain ⟨z, hz⟩ := hc 0 (by omega)
    have hspot : spot = none := by simpa [Addr.add] using World.cell?_spot hz
    subst hspot
    have hat : ∀ i, i < m → ∃ z, w.cell? ⟨b, o + i, none⟩ = some (.int .u8 z) := fun i hi => by
      obtain ⟨z, hz⟩ := hc i hi
      rw [Go.WideShapes.add_plain, Go.WideShapes.add_plain, Nat.mul_one] at hz
      exact ⟨z, hz⟩
    obtain ⟨z0, hz0⟩ := hat 0 (by omega)
    exact ⟨b, o, rfl, World.block_lt_of_cell? w _ hz0, fun k hk => hat k (by omega)⟩
end
end Go.Proofs.YtbceepjjdfpfmaaGreat
