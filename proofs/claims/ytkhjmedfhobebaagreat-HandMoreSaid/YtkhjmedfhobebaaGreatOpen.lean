/- What a watch, a list of stretches and a list of numbers are in memory, when they come in as data. No condition. -/
import Derived.Test.YtkhjmedfhobebaaGreatRefA
import Derived.Deep.Slices
import Derived.ChangeSame
import Derived.Carry
namespace Go.Proofs.YtkhjmedfhobebaaGreat
open Go.RowKit HandSpec Go.ChangeShapes Go.WideShapes Go.Deep
set_option maxRecDepth 100000
section
variable {H : Type} {enc : TypeId × Value → H} {w : World} {base : Nat} {spare : Nat → Bool} {held : Bool}
/-- Values that are numbers. -/
def IntsAt (c : Nat) (cs : List Value) : Prop := cs.length = c ∧ ∀ j, j < c → ∃ z, cs[j]? = some (.int .i64 z)
theorem ints3 {f : Nat} {cs : List Value} {x : DataW H × List MemPlace} (h : DataW.trod enc Tryz.prog w base spare held f 3 cs = some x) : IntsAt 1 cs := by
 obtain ⟨n, rfl, -, -⟩ := DataW.trod_int Tryz.underlying3 h
 refine ⟨rfl, fun j hj => ⟨n, ?_⟩⟩
 obtain rfl : j = 0 := by omega
 rfl
theorem cells3 : Tryz.prog.cellsOf 3 = 1 := by kernel_rfl
/-- A struct of numbers, by its fields. -/
theorem ints_struct {t : TypeId} {fs : Array Field} {c : Nat} (ht : Tryz.prog.underlying t = some (.struct fs)) (hc : Tryz.prog.cellsOf t = c)
  (hfs : ∀ j, j < c → ∃ (i : Nat) (f : Field) (q : Nat), fs[i]? = some f ∧ f.offset ≤ j ∧ j < f.offset + Tryz.prog.cellsOf f.type ∧ Tryz.prog.cellsOf f.type = q ∧ ∀ (n : Nat) (cs : List Value) (x : DataW H × List MemPlace), DataW.trod enc Tryz.prog w base spare held n f.type cs = some x → IntsAt q cs)
  {n : Nat} {cs : List Value} {x : DataW H × List MemPlace} (h : DataW.trod enc Tryz.prog w base spare held n t cs = some x) : IntsAt c cs := by
 obtain ⟨xs, n', -, -, hl, hlen, hf⟩ := DataW.trod_struct ht h
 refine ⟨hl.trans hc, fun j hj => ?_⟩
 obtain ⟨i, f, q, hi, h1, h2, hq, h3⟩ := hfs j hj
 have hil : i < xs.length := by rw [hlen]; exact (Array.getElem?_eq_some_iff.1 hi).1
 have h4 := hf i f hi
 rw [List.getElem?_eq_getElem hil] at h4
 obtain ⟨h5, h6⟩ := h3 _ _ _ h4
 obtain ⟨z, hz⟩ := h6 (j - f.offset) (by omega)
 refine ⟨z, ?_⟩
 rw [List.getElem?_take_of_lt (by omega), List.getElem?_drop] at hz
 rw [show f.offset + (j - f.offset) = j by omega] at hz
 exact hz
theorem cells67 : Tryz.prog.cellsOf 67 = 2 := by kernel_rfl
theorem cells51 : Tryz.prog.cellsOf 51 = 2 := by kernel_rfl
theorem cells119 : Tryz.prog.cellsOf 119 = 2 := by kernel_rfl
theorem cells114 : Tryz.prog.cellsOf 114 = 3 := by kernel_rfl
theorem cells79 : Tryz.prog.cellsOf 79 = 3 := by kernel_rfl
theorem cells26 : Tryz.prog.cellsOf 26 = 6 := by kernel_rfl
theorem ints67 {n : Nat} {cs : List Value} {x : DataW H × List MemPlace} (h : DataW.trod enc Tryz.prog w base spare held n 67 cs = some x) : IntsAt 2 cs :=
 ints_struct Tryz.underlying67 cells67 (fun j hj => by
  match j, hj with
  | 0, _ => exact ⟨0, _, 1, rfl, by simp, by simp [cells3], cells3, fun _ _ _ h => ints3 h⟩
  | 1, _ => exact ⟨1, _, 1, rfl, by simp, by simp [cells3], cells3, fun _ _ _ h => ints3 h⟩) h
theorem ints51 {n : Nat} {cs : List Value} {x : DataW H × List MemPlace} (h : DataW.trod enc Tryz.prog w base spare held n 51 cs = some x) : IntsAt 2 cs :=
 ints_struct Tryz.underlying51 cells51 (fun j hj => by
  match j, hj with
  | 0, _ => exact ⟨0, _, 1, rfl, by simp, by simp [cells3], cells3, fun _ _ _ h => ints3 h⟩
  | 1, _ => exact ⟨1, _, 1, rfl, by simp, by simp [cells3], cells3, fun _ _ _ h => ints3 h⟩) h
theorem ints119 {n : Nat} {cs : List Value} {x : DataW H × List MemPlace} (h : DataW.trod enc Tryz.prog w base spare held n 119 cs = some x) : IntsAt 2 cs :=
 ints_struct Tryz.underlying119 cells119 (fun j hj => by
  match j, hj with
  | 0, _ => exact ⟨0, _, 1, rfl, by simp, by simp [cells3], cells3, fun _ _ _ h => ints3 h⟩
  | 1, _ => exact ⟨1, _, 1, rfl, by simp, by simp [cells3], cells3, fun _ _ _ h => ints3 h⟩) h
theorem ints114 {n : Nat} {cs : List Value} {x : DataW H × List MemPlace} (h : DataW.trod enc Tryz.prog w base spare held n 114 cs = some x) : IntsAt 3 cs :=
 ints_struct Tryz.underlying114 cells114 (fun j hj => by
  match j, hj with
  | 0, _ => exact ⟨0, _, 1, rfl, by simp, by simp [cells3], cells3, fun _ _ _ h => ints3 h⟩
  | 1, _ => exact ⟨1, _, 1, rfl, by simp, by simp [cells3], cells3, fun _ _ _ h => ints3 h⟩
  | 2, _ => exact ⟨2, _, 1, rfl, by simp, by simp [cells3], cells3, fun _ _ _ h => ints3 h⟩) h
theorem ints79 {n : Nat} {cs : List Value} {x : DataW H × List MemPlace} (h : DataW.trod enc Tryz.prog w base spare held n 79 cs = some x) : IntsAt 3 cs :=
 ints_struct Tryz.underlying79 cells79 (fun j hj => by
  match j, hj with
  | 0, _ => exact ⟨0, _, 1, rfl, by simp, by simp [cells3], cells3, fun _ _ _ h => ints3 h⟩
  | 1, _ => exact ⟨1, _, 2, rfl, by simp, by simp [cells67], cells67, fun _ _ _ h => ints67 h⟩
  | 2, _ => exact ⟨1, _, 2, rfl, by simp, by simp [cells67], cells67, fun _ _ _ h => ints67 h⟩) h
/-- A slice of such elements reads as rows of numbers. -/
theorem open_rd {t e : TypeId} {c f : Nat} (hc0 : 0 < c) {cs : List Value} {x : DataW H × List MemPlace} (ht : Tryz.prog.underlying t = some (.slice e)) (hc : Tryz.prog.cellsOf e = c)
  (hi : ∀ (n : Nat) (cs : List Value) (x : DataW H × List MemPlace), DataW.trod enc Tryz.prog w base spare held n e cs = some x → IntsAt c cs)
  (h : DataW.trod enc Tryz.prog w base spare held f t cs = some x) : ∃ A n cap g, cs = [.slice A n cap] ∧ Rd w A n c g := by
 rcases open_slice ht h with ⟨rfl, -⟩ | ⟨a, len, cap, m, n, D, Pl, rfl, -, hl, -, hm, -, hel⟩
 ·exact ⟨none, 0, 0, fun _ _ => 0, rfl, Rd.nil⟩
 ·have hlm : len ≤ m := by rw [hm]; split <;> omega
  rw [hc] at hel
  obtain ⟨cs', hcs⟩ := choose_lt (α := List Value) (p := fun i cs => w.cells? base (a.add (i * c)) c = some cs ∧ DataW.trod enc Tryz.prog w base spare held n e cs = some (D i, Pl i)) hel
  have hz : ∀ i, i < m → ∀ j, j < c → ∃ z, (cs' i)[j]? = some (.int .i64 z) := fun i him => (hi _ _ _ (hcs i him).2).2
  refine ⟨some a, len, cap, fun i j => match (cs' i)[j]? with
   | some (.int _ z) => z
   | _ => 0, rfl, fun h0 => ?_⟩
  have hat : ∀ i, i < m → ∀ j, j < c → w.cell? ((a.add (i * c)).add j) = (cs' i)[j]? := fun i him => (World.cells?_some (hcs i him).1).2.2
  obtain ⟨b, o, spot⟩ := a
  obtain ⟨z, hz0⟩ := hz 0 (by omega) 0 hc0
  have h00 := hat 0 (by omega) 0 hc0
  rw [hz0] at h00
  have hspot : spot = none := by simpa [Addr.add] using World.cell?_spot h00
  subst hspot
  refine ⟨b, o, rfl, fun i hi' j hj => ?_⟩
  have h1 := hat i (by omega) j hj
  obtain ⟨z, hz1⟩ := hz i (by omega) j hj
  rw [Go.WideShapes.add_plain, Go.WideShapes.add_plain] at h1
  rw [h1, hz1]
  simp [hz1]
theorem cells22 : Tryz.prog.cellsOf 22 = 1 := by kernel_rfl
theorem cells23 : Tryz.prog.cellsOf 23 = 1 := by kernel_rfl
theorem cells24 : Tryz.prog.cellsOf 24 = 1 := by kernel_rfl
/-- A watch. -/
theorem open26 {r : Reach} {b0 : Nat} {v : Value} {d : DataW H} {p : List MemPlace} (hv : Value.okWide Tryz.prog w r b0 26 v) (h : DataW.Trod enc Tryz.prog w base spare held 26 v d p) : ∃ x, IsW w v x := by
 obtain ⟨⟨l⟩, rfl, hsz⟩ := okWide_struct Tryz.underlying26 hv
 rw [cells26] at hsz
 match l, hsz with
 | [c0, c1, c2, c3, c4, c5], _ =>
  obtain ⟨fuel, hf⟩ := h
  obtain ⟨xs, n, _, _, _, hlen, hg⟩ := DataW.trod_struct Tryz.underlying26 hf
  match xs, hlen with
  | [y0, y1, y2, y3, y4, y5], _ =>
   have g0 := hg 0 _ rfl
   have g1 := hg 1 _ rfl
   have g2 := hg 2 _ rfl
   have g3 := hg 3 _ rfl
   have g4 := hg 4 _ rfl
   have g5 := hg 5 _ rfl
   obtain ⟨n0, e0, -⟩ := DataW.trod_int Tryz.underlying3 g0
   obtain ⟨n1, e1, -⟩ := DataW.trod_int Tryz.underlying3 g1
   obtain ⟨n2, e2, -⟩ := DataW.trod_int Tryz.underlying3 g2
   obtain ⟨A1, m1, q1, s1, e3, r1⟩ := open_rd (by omega) Tryz.underlying22 cells79 (fun _ _ _ h => ints79 h) g3
   obtain ⟨A2, m2, q2, s2, e4, r2⟩ := open_rd (by omega) Tryz.underlying23 cells119 (fun _ _ _ h => ints119 h) g4
   obtain ⟨A3, m3, q3, s3, e5, r3⟩ := open_rd (by omega) Tryz.underlying24 cells114 (fun _ _ _ h => ints114 h) g5
   simp [cells3, cells22, cells23, cells24, Value.cells] at e0 e1 e2 e3 e4 e5
   subst e0 e1 e2 e3 e4 e5
   exact ⟨⟨n0, n1, n2, m1, m2, m3, s1, s2, s3⟩, A1, q1, A2, q2, A3, q3, rfl, r1, r2, r3⟩
/-- A list of stretches. -/
theorem open45 {r : Reach} {b0 : Nat} {v : Value} {d : DataW H} {p : List MemPlace} (hv : Value.okWide Tryz.prog w r b0 45 v) (h : DataW.Trod enc Tryz.prog w base spare held 45 v d p) : ∃ A n cap g, v = .slice A n cap ∧ Rd w A n 2 g := by
 obtain ⟨a, len, cap, rfl⟩ := okWide_slice Tryz.underlying45 hv
 obtain ⟨fuel, hf⟩ := h
 obtain ⟨A, n, q, g, e, hr⟩ := open_rd (by omega) Tryz.underlying45 cells51 (fun _ _ _ h => ints51 h) hf
 simp [Value.cells] at e
 obtain ⟨rfl, rfl, rfl⟩ := e
 exact ⟨_, _, _, g, rfl, hr⟩
/-- A list of numbers. -/
theorem open56 {r : Reach} {b0 : Nat} {v : Value} {d : DataW H} {p : List MemPlace} (hv : Value.okWide Tryz.prog w r b0 56 v) (h : DataW.Trod enc Tryz.prog w base spare held 56 v d p) : ∃ A n cap g, v = .slice A n cap ∧ Rd w A n 1 g := by
 obtain ⟨a, len, cap, rfl⟩ := okWide_slice Tryz.underlying56 hv
 obtain ⟨fuel, hf⟩ := h
 obtain ⟨A, n, q, g, e, hr⟩ := open_rd (by omega) Tryz.underlying56 cells3 (fun _ _ _ h => ints3 h) hf
 simp [Value.cells] at e
 obtain ⟨rfl, rfl, rfl⟩ := e
 exact ⟨_, _, _, g, rfl, hr⟩
/-- Behind a call that makes memory alone, each argument reads as it did. -/
theorem post_later {P : Program} {f : Func} {s : ChangeSpec} {apart fresh handsOn again : Bool} {W W' : World} {args : Array Value} {v : Value} {ds gs : List (DataW H)} {before pa pv : List MemPlace}
  (hW : DataW.Whole enc P f.params.toList s.vars apart W args.toList ds gs before)
  (hres : ∀ (b : Nat) (sp : Nat → Bool) (hd : Bool), DataW.TrodAll enc P W' b sp hd f.resultTypes.toList (v.resultList f.resultTypes.size) (s.fn H (ds ++ gs)).results [])
  (hargs : ∀ sp : Nat → Bool, (∀ p ∈ before, sp p.block = true) → DataW.TrodAll enc P W' 0 sp true f.params.toList args.toList (s.fn H (ds ++ gs)).args pa)
  (hvars : ∀ sp : Nat → Bool, (∀ p ∈ before, sp p.block = true) → DataW.TrodVars enc P W' sp s.vars (s.fn H (ds ++ gs)).vars pv)
  (hps : before = pa ++ pv) (hb : Ext W W')
  (hok : ∀ (j : Nat) (t : TypeId) (r : Value), f.resultTypes[j]? = some t → (v.resultList f.resultTypes.size)[j]? = some r → Value.okWide P W' .any 0 t r) :
  s.post enc P f apart fresh handsOn again W args v W' := by
 have hlt : ∀ p ∈ before, p.block < W.heap.size := fun p hp => hW.lt p hp
 have hold : ∀ p ∈ before, (fun b => decide (b < W.heap.size)) p.block = true := fun p hp => by simpa using hlt p hp
 refine ⟨ds, gs, before, [], pa, pv, hW, hres _ _ _, hargs _ hold, hvars _ hold, World.keptBut_mono (fun p hp => ⟨hp, ?_⟩) (Below.frame hb (· ∈ before)), fun _ => ?_⟩
 ·rw [hps, List.mem_append] at hp
  exact Or.inr hp
 ·obtain ⟨_, _, _, _, _, hz, hn⟩ := hW
  refine ⟨hok, _, _, ([] ++ pa) ++ pv, ⟨[] ++ pa, pv, trodAll_append (hargs _ (fun _ _ => rfl)) (hres _ _ _), hvars _ (fun _ _ => rfl), rfl, fun b off hp => ?_, fun ha => ?_⟩, fun p hp _ => ?_⟩
  ·have hin : MemPlace.cell b off ∈ before := by rw [hps]; simpa using hp
   rw [Below.frozen hb (hlt _ hin)]
   exact hz b off hin
  ·have := hn ha
   rw [hps] at this
   simpa using this
  ·rw [hps]
   simpa using hp
theorem laidOut : laidOutB Tryz.prog = true := by kernel_rfl
/-- The arguments read as they did, in a later world. -/
theorem stays {W W' : World} (hb : Ext W W') {sp : Nat → Bool} : ∀ {ts : List TypeId} {vs : List Value} {ds : List (DataW H)} {ps : List MemPlace}, (∀ t ∈ ts, Tryz.prog.readableRec t = true ∧ t < Tryz.prog.types.size) →
  DataW.TrodAll enc Tryz.prog W 0 (fun _ => true) true ts vs ds ps → (∀ p ∈ ps, p.block < W.heap.size) → (∀ p ∈ ps, sp p.block = true) → DataW.TrodAll enc Tryz.prog W' 0 sp true ts vs ds ps
 | [], [], [], _, _, h, _, _ => h
 | t :: ts, _ :: _, _ :: _, _, hT, ⟨p, q, h1, h2, e⟩, hlt, hs => by
  subst e
  have ht := hT t (List.mem_cons_self ..)
  exact ⟨p, q, WideElems.Trod_stays laidOut ht.1 ht.2 h1 (fun x hx => Below.same hb (hlt x (List.mem_append_left _ hx))) (fun x hx => hs x (List.mem_append_left _ hx)),
   stays hb (fun t ht => hT t (List.mem_cons_of_mem _ ht)) h2 (fun x hx => hlt x (List.mem_append_right _ hx)) (fun x hx => hs x (List.mem_append_right _ hx)), rfl⟩
end
end Go.Proofs.YtkhjmedfhobebaaGreat
