/- SortFunc at an own list of sets' places. -/
import Derived.Test.YtbceepjjdfpfmaaGreatGrpM
import Derived.Test.YtbceepjjdfpfmaaGreatGrpB
import Derived.Test.YtbceepjjdfpfmaaGreatApp
namespace Go.Proofs.YtbceepjjdfpfmaaGreat
open Go.RowKit HandSpec
set_option maxHeartbeats 4000000
set_option maxRecDepth 100000
/-- An own slice of the places of these sets, each in a block from B on. -/
structure GrS (w : World) (B : Nat) (v : Value) (V : List Value) (L : List Nat) : Prop where
  o : OwnV w B 22 v V
  ll : V.length = L.length
  rr : ∀ i, i < L.length → ∃ b cap, V[i]? = some (.slice (some ⟨b, 0, none⟩) (places (L.getD i 0)).length cap) ∧ B ≤ b ∧ ArrB w b 3 (places (L.getD i 0)).length (fun j => ((places (L.getD i 0)).getD j 0 : Nat)) ∧ (places (L.getD i 0)).length ≤ cap
namespace GrS
variable {w w' : World} {B : Nat} {v v' : Value} {V : List Value} {L : List Nat}
theorem ext (h : GrS w B v V L) (e : Ext w w') : GrS w' B v V L := ⟨h.o.ext e, h.ll, fun i hi => by
  obtain ⟨b, cap, h1, h2, h3, h4⟩ := h.rr i hi
  exact ⟨b, cap, h1, h2, h3.ext e, h4⟩⟩
theorem app {b cap s : Nat} (h : GrS w B v V L) (hcap : (places s).length ≤ cap) (hb : B ≤ b) (ha : ArrB w b 3 (places s).length (fun j => ((places s).getD j 0 : Nat))) (hv : OwnV w' B 22 v' (V ++ [.slice (some ⟨b, 0, none⟩) (places s).length cap])) (hg : w.grownBy w' v.ownBlock) :
    GrS w' B v' (V ++ [.slice (some ⟨b, 0, none⟩) (places s).length cap]) (L ++ [s]) := by
  refine ⟨hv, by rw [List.length_append, List.length_append, h.ll]; rfl, fun i hi => ?_⟩
  rw [List.length_append, List.length_singleton] at hi
  by_cases e : i = L.length
  · subst e
    have e1 : (L ++ [s]).getD L.length 0 = s := by simp
    rw [e1]
    exact ⟨b, cap, by rw [List.getElem?_append_right (by rw [h.ll]; exact Nat.le_refl _), h.ll]; simp, hb, ha.same (hg.block _ ha.lt fun q => ha.ne h.o (by decide) q.symm), hcap⟩
  · have e1 : (L ++ [s]).getD i 0 = L.getD i 0 := by
      rw [List.getD_eq_getElem?_getD, List.getD_eq_getElem?_getD, List.getElem?_append_left (by omega)]
    rw [e1]
    obtain ⟨b', cap', h1, h2, h3, h4⟩ := h.rr i (by omega)
    exact ⟨b', cap', by rw [List.getElem?_append_left (by rw [h.ll]; omega)]; exact h1, h2, h3.same (hg.block _ h3.lt fun q => h3.ne h.o (by decide) q.symm), h4⟩
end GrS
theorem list_arr {w : World} {B s : Nat} {u : Value} (h : OwnR w B 3 1 u (rows1 (places s))) (h0 : 0 < (places s).length) :
    ∃ b cap, u = .slice (some ⟨b, 0, none⟩) (places s).length cap ∧ B ≤ b ∧ ArrB w b 3 (places s).length (fun j => ((places s).getD j 0 : Nat)) ∧ (places s).length ≤ cap := by
  rcases h.arrB with ⟨-, q⟩ | ⟨b, cap, rfl, hb, hcp, ha⟩
  · exact absurd (congrArg List.length q) (by rw [rows1_length]; simp; intro e; rw [e] at h0; cases h0)
  · rw [rows1_length] at ha hcp ⊢
    refine ⟨b, cap, rfl, hb, ha.congr fun i hi => ?_, hcp⟩
    simp [rowsAt, rows1, hi]
/-- Sets in the order of their first places. -/
def SortedS (L : List Nat) : Prop := ∀ a b, a < b → b < L.length → hdS (L.getD a 0) ≤ hdS (L.getD b 0)
/-- A table of the places of these sets. -/
def RdG (w : World) (v : Value) (L : List Nat) : Prop := ∃ (A : Option Addr) (c : Nat) (B : Nat → Option Addr) (C : Nat → Nat), v = .slice A L.length c ∧ RdV w A L.length (fun k => .slice (B k) (places (L.getD k 0)).length (C k)) ∧ ∀ k, k < L.length → Rd w (B k) (places (L.getD k 0)).length 1 (fun j _ => ((places (L.getD k 0)).getD j 0 : Nat)) ∧ (places (L.getD k 0)).length ≤ C k
theorem RdG.ext {w w' : World} {v : Value} {L : List Nat} (h : RdG w v L) (e : Ext w w') : RdG w' v L := by
  obtain ⟨A, c, B, C, h1, h2, h3⟩ := h
  exact ⟨A, c, B, C, h1, h2.ext e, fun k hk => ⟨(h3 k hk).1.ext e, (h3 k hk).2⟩⟩
theorem RdG.rdN {w : World} {v : Value} {L : List Nat} (h : RdG w v L) : ∃ A c, v = .slice A L.length c ∧ RdN w A L.length (fun k => (places (L.getD k 0)).length) (fun k j => ((places (L.getD k 0)).getD j 0 : Nat)) := by
  obtain ⟨A, c, B, C, h1, h2, h3⟩ := h
  exact ⟨A, c, h1, B, C, h2, fun k hk => (h3 k hk).1⟩
/-- The same, in blocks from B on: other blocks may change. -/
def RdF (w : World) (B : Nat) (v : Value) (L : List Nat) : Prop := ∃ (A : Option Addr) (c : Nat) (D : Nat → Option Addr) (C : Nat → Nat), v = .slice A L.length c ∧ (∀ k, k < L.length → (places (L.getD k 0)).length ≤ C k) ∧
  ∀ w2 : World, (∀ b, B ≤ b → b < w.heap.size → w2.heap[b]? = w.heap[b]?) → RdV w2 A L.length (fun k => .slice (D k) (places (L.getD k 0)).length (C k)) ∧ ∀ k, k < L.length → Rd w2 (D k) (places (L.getD k 0)).length 1 (fun j _ => ((places (L.getD k 0)).getD j 0 : Nat))
theorem RdF.rd {w : World} {B : Nat} {v : Value} {L : List Nat} (h : RdF w B v L) : RdG w v L := by
  obtain ⟨A, c, D, C, h1, h2, h3⟩ := h
  obtain ⟨h4, h5⟩ := h3 w fun _ _ _ => rfl
  exact ⟨A, c, D, C, h1, h4, fun k hk => ⟨h5 k hk, h2 k hk⟩⟩
theorem RdF.base {w : World} {B B' : Nat} {v : Value} {L : List Nat} (h : RdF w B v L) (hB : B' ≤ B) : RdF w B' v L := by
  obtain ⟨A, c, D, C, h1, h2, h3⟩ := h
  exact ⟨A, c, D, C, h1, h2, fun w2 hw => h3 w2 fun b hb => hw b (by omega)⟩
theorem RdF.ext {w w' : World} {B : Nat} {v : Value} {L : List Nat} (h : RdF w B v L) (e : Ext w w') : RdF w' B v L := by
  obtain ⟨A, c, D, C, h1, h2, h3⟩ := h
  exact ⟨A, c, D, C, h1, h2, fun w2 hw => h3 w2 fun b hb hl => (hw b hb (Nat.lt_of_lt_of_le hl e.size)).trans (e.block hl)⟩
theorem nthV_zip {L : List Nat} {V : List Value} (h : V.length = L.length) {i : Nat} (hi : i < L.length) : nthV (L.zip V) i = (L.getD i 0, V.getD i undef) := by
  have h1 : i < V.length := by omega
  have e : (L.zip V)[i]? = some (L[i], V[i]) := List.getElem?_zip_eq_some.2 ⟨List.getElem?_eq_getElem hi, List.getElem?_eq_getElem h1⟩
  unfold nthV
  rw [List.getD_eq_getElem?_getD, e, List.getD_eq_getElem?_getD, List.getD_eq_getElem?_getD, List.getElem?_eq_getElem hi, List.getElem?_eq_getElem h1]
  rfl
theorem sort_grp {w0 w : World} {B : Nat} {v : Value} {V : List Value} {L : List Nat} (h : GrS w B v V L) (he0 : Ext w0 w) (hB : w0.heap.size ≤ B) (hL : ∀ s, s ∈ L → 0 < s ∧ s < 128) (hn : L.length ≤ 12) :
    Calls Tryz.prog 177 #[v, .func (.func 178) #[] #[]] w fun e w' => e = .returned (.tuple #[]) ∧ Ext w0 w' ∧ ∃ L', L'.Perm L ∧ SortedS L' ∧ RdF w' B v L' := by
  rcases h.o.2.2 with ⟨hv, h0⟩ | ⟨g, cap, cur, hv, hb, hh, hcl, hm, hs, ht⟩
  · subst hv
    have hl := h.ll
    obtain rfl := List.eq_nil_of_length_eq_zero (show L.length = 0 by omega)
    refine (sort177_nil w).mono ?_
    rintro e w' ⟨rfl, rfl⟩
    exact ⟨rfl, he0, [], List.Perm.refl _, fun a b _ hb => absurd hb (by simp), none, 0, fun _ => none, fun _ => 0, rfl, fun k hk => absurd hk (by simp), fun w2 _ => ⟨RdV.nil, fun k hk => absurd hk (by simp)⟩⟩
  · subst hv
    have hl := h.ll
    have hbk : Blk w g 22 cur := hh
    have hgl := hbk.lt
    have hVc : ∀ i, i < L.length → w.cell? ⟨g, i, none⟩ = some (V.getD i undef) := fun i hi => by
      have h1 : V[i]? = some (V.getD i undef) := by simp [List.getD_eq_getElem?_getD, show i < V.length by omega]
      have h2 : (cur.toList.take (V.length * 1))[i]? = some (V.getD i undef) := by rw [ht]; exact h1
      rw [List.getElem?_take_of_lt (by omega)] at h2
      rw [hbk.cell]
      simpa using h2
    have hzl : (L.zip V).length = L.length := by simp; omega
    have ha : ArrV w g (L.zip V).length (cV (L.zip V)) := ⟨hgl, fun i hi => by rw [hzl] at hi; exact ⟨by unfold cV; rw [nthV_zip hl hi]; exact hVc i hi, hbk.frozen i⟩⟩
    have hrow : ∀ i, i < L.length → ∃ b c, V.getD i undef = .slice (some ⟨b, 0, none⟩) (places (L.getD i 0)).length c ∧ b ≠ g ∧ B ≤ b ∧ b < w.heap.size ∧ ArrB w b 3 (places (L.getD i 0)).length (fun j => ((places (L.getD i 0)).getD j 0 : Nat)) ∧ (places (L.getD i 0)).length ≤ c := fun i hi => by
      obtain ⟨b, c, h1, hBb, h3, h4⟩ := h.rr i hi
      have hne : b ≠ g := fun e => h3.ne h.o (by decide) (by rw [e]; simp only [Value.ownBlock])
      have hv : V.getD i undef = .slice (some ⟨b, 0, none⟩) (places (L.getD i 0)).length c := by rw [List.getD_eq_getElem?_getD, h1, Option.getD_some]
      exact ⟨b, c, hv, hne, hBb, h3.lt, h3, h4⟩
    have hmem : ∀ i, i < L.length → 0 < L.getD i 0 ∧ L.getD i 0 < 128 := fun i hi => hL _ (by rw [List.getD_eq_getElem?_getD, List.getElem?_eq_getElem hi]; exact List.getElem_mem _)
    have hd : ∀ p, p ∈ L.zip V → hdS p.1 ≤ 100 ∧ HdV w g p := fun p hp => by
      obtain ⟨i, hi, rfl⟩ := List.mem_iff_getElem.1 hp
      have e := nthV_zip hl (show i < L.length by omega)
      rw [nthV_get _ hi] at e
      rw [e]
      obtain ⟨b, c, h1, h2, -, h3, h4, -⟩ := hrow i (by omega)
      have hm := hmem i (by omega)
      have hp := places_some _ hm.2 (by omega)
      refine ⟨by unfold hdS; dsimp only; omega, b, _, c, h1, hp.1, h2, h3, ?_⟩
      exact h4.cell hp.1
    have := sort177 (w0 := w0) (cap := cap) (s := (22, cur.size)) ⟨he0, cur, hbk, rfl⟩ (by omega) ha (by omega) (by omega) hd
    rw [hzl] at this
    rw [hl]
    refine this.mono ?_
    rintro e w' ⟨rfl, he, hk, l', hp, hsrt, ha'⟩
    have hl' : l'.length = L.length := by rw [hp.length_eq, hzl]
    have hg : ∀ i, i < l'.length → (l'.map (·.1)).getD i 0 = (nthV l' i).1 := fun i hi => by
      rw [nthV_get _ hi]
      simp [List.getD_eq_getElem?_getD, hi]
    refine ⟨rfl, he.1, l'.map (·.1), ?_, fun a b hab hb => ?_, some ⟨g, 0, none⟩, cap, fun k => match (nthV l' k).2 with | .slice A _ _ => A | _ => none, fun k => match (nthV l' k).2 with | .slice _ _ c => c | _ => 0, by rw [List.length_map, hl'], fun k hk' => ?_, fun w2 hw2 => ?_⟩
    · have := hp.map (·.1)
      rwa [show (L.zip V).map (·.1) = L from List.map_fst_zip (by omega)] at this
    · rw [List.length_map] at hb
      have := hsrt a b hab (by omega)
      unfold ky at this
      rw [hg a (by omega), hg b hb]
      omega
    · rw [List.length_map] at hk'
      have hm : nthV l' k ∈ L.zip V := hp.mem_iff.1 (by rw [nthV_get _ hk']; exact List.getElem_mem _)
      obtain ⟨j, hj, e⟩ := List.mem_iff_getElem.1 hm
      have e2 := nthV_zip hl (show j < L.length by omega)
      rw [nthV_get _ hj, e] at e2
      obtain ⟨b, c, h1, h2, hBb, h3, h4, h5⟩ := hrow j (by omega)
      dsimp only
      rw [hg k hk', e2]
      dsimp only
      rw [h1]
      exact h5
    · rw [List.length_map]
      have hrow' : ∀ i, i < l'.length → ∃ b c, (nthV l' i).2 = .slice (some ⟨b, 0, none⟩) (places (nthV l' i).1).length c ∧ ArrB w2 b 3 (places (nthV l' i).1).length (fun j => ((places (nthV l' i).1).getD j 0 : Nat)) := fun i hi => by
        have hm : nthV l' i ∈ L.zip V := hp.mem_iff.1 (by rw [nthV_get _ hi]; exact List.getElem_mem _)
        obtain ⟨j, hj, e⟩ := List.mem_iff_getElem.1 hm
        have e2 := nthV_zip hl (show j < L.length by omega)
        rw [nthV_get _ hj, e] at e2
        obtain ⟨b, c, h1, h2, hBb, h3, h4, -⟩ := hrow j (by omega)
        rw [e2]
        exact ⟨b, c, h1, (h4.same (hk.2 b h3 h2)).same (hw2 b hBb (Nat.lt_of_lt_of_le h3 hk.1))⟩
      refine ⟨fun _ => ⟨g, 0, rfl, fun k hk' => ?_⟩, fun k hk' => ?_⟩
      · obtain ⟨b, c, h1, h2⟩ := hrow' k hk'
        rw [Nat.zero_add, (ha'.same (hw2 g hb ha'.1)).cell (by omega)]
        dsimp only
        rw [hg k hk']
        unfold cV
        rw [h1]
      · obtain ⟨b, c, h1, h2⟩ := hrow' k hk'
        dsimp only
        rw [hg k hk', h1]
        exact h2.rd fun _ => rfl
end Go.Proofs.YtbceepjjdfpfmaaGreat
