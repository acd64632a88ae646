/- What the law of names asks of stretches and hands: plain law; contracts of what it calls. No condition. -/
import Derived.Test.YtkhjmedfhobebaaGreatTrueP
import Derived.Test.YtkhjmedfhobebaaGreatRefK
import Derived.Test.YtkhjmedfhobebaaGreatLawsK
import Derived.Test.YtkhjmedfhobebaaGreatDoV
import Derived.Test.YtkhjmedfhobebaaGreatDoY
namespace HandSpec
namespace L
open R P
variable {x : WD}
/-- One of some hands is there in a stretch. -/
def metL (x : WD) (t : List Nat) (s : Nat × Nat) : Bool := t.any fun h : Nat => R.is x s.1 s.2 h
theorem metL_th (hx : Ok x) {t : List Nat} {s : Nat × Nat} (h1 : s.1 < s.2) (h2 : s.2 < x.cn) : decide (th x s.1 s.2 &&& P.set t ≠ 0) = metL x t s := by
  unfold metL
  rw [Bool.eq_iff_iff, decide_eq_true_iff, List.any_eq_true]
  constructor
  · intro h
    rcases Nat.eq_zero_or_pos (th x s.1 s.2 &&& P.set t) with h0 | h0
    · exact absurd h0 h
    · obtain ⟨i, hi⟩ := Nat.exists_testBit_of_ne_zero h
      rw [Nat.testBit_and, Bool.and_eq_true, F.set_bit, th_bit hx h1 h2] at hi
      exact ⟨i, of_decide_eq_true hi.2, hi.1⟩
  · rintro ⟨i, hi, hs⟩ h0
    have : (th x s.1 s.2 &&& P.set t).testBit i = true := by
      rw [Nat.testBit_and, F.set_bit, th_bit hx h1 h2, hs, decide_eq_true hi]; rfl
    rw [h0, Nat.zero_testBit] at this
    cases this
theorem sm_short {s : Nat × Nat} (h : s ∈ P.smallest x) : s ∈ R.short x := by
  unfold P.smallest at h
  exact (List.mem_filter.1 h).1
theorem mem_left (hx : Ok x) {t : List Nat} {s : Nat × Nat} : s ∈ P.left x (P.set t) ↔ s ∈ P.smallest x ∧ metL x t s = false := by
  unfold P.left
  rw [List.mem_filter]
  constructor
  · rintro ⟨h1, h2⟩
    obtain ⟨⟨a1, a2⟩, -⟩ := mem_short.1 (sm_short h1)
    refine ⟨h1, ?_⟩
    unfold lfQ at h2
    rw [metL_th hx a1 a2] at h2
    simpa using h2
  · rintro ⟨h1, h2⟩
    obtain ⟨⟨a1, a2⟩, -⟩ := mem_short.1 (sm_short h1)
    refine ⟨h1, ?_⟩
    unfold lfQ
    rw [metL_th hx a1 a2, h2]; rfl
theorem metL_in {t : List Nat} {s u : Nat × Nat} (h1 : s.1 ≤ u.1) (h2 : u.2 ≤ s.2) (h : metL x t u = true) : metL x t s = true := by
  unfold metL at h ⊢
  rw [List.any_eq_true] at h ⊢
  obtain ⟨i, hi, hs⟩ := h
  obtain ⟨j, j1, j2, j3⟩ := is_true.1 hs
  exact ⟨i, hi, is_true.2 ⟨j, by omega, by omega, j3⟩⟩
/-- Hands explain a watch just if one of them is there in each short stretch. -/
theorem left_all (hx : Ok x) (t : List Nat) : (P.left x (P.set t)).isEmpty = !(R.short x).any fun s => !metL x t s := by
  rw [Bool.eq_iff_iff, List.isEmpty_iff, Bool.not_eq_true', List.any_eq_false]
  constructor
  · intro h s hs
    obtain ⟨u, hu, u1, u2⟩ := F.smallest_in x _ s rfl hs
    have : metL x t u = true := by
      cases hm : metL x t u with
      | true => rfl
      | false =>
        have := (mem_left hx).2 ⟨hu, hm⟩
        rw [h] at this; cases this
    rw [metL_in u1 u2 this]; simp
  · intro h
    rw [List.eq_nil_iff_forall_not_mem]
    intro s hs
    obtain ⟨h1, h2⟩ := (mem_left hx).1 hs
    have := h s (sm_short h1)
    rw [h2] at this
    simp at this
/-- The fewest hands are the first of the fewest ones. -/
theorem few_first (hx : Ok x) (hw : fwOk x (whole x) = true) {t : List Nat} (ht : F.Inc x.hands.toNat 0 t) (h : (P.left x (P.set t)).isEmpty = true) : ¬ t.length < (P.fewest x).length ∧ (t.length = (P.fewest x).length → lexB t (P.fewest x) = false) := by
  have hhd := hx.hands
  rw [F.left_fw hx hw] at h
  have h1 := (R.few_spec x (whole x + 1)).2 (P.set t) (by have := F.set_lt ht; have := Nat.two_pow_pos x.hands.toNat; unfold whole; omega) h
  rw [F.ones_set (by omega) ht] at h1
  rw [F.fewest_eq hx hw]
  unfold aheadB at h1
  show ¬ t.length < (R.few x (whole x + 1)).length ∧ (t.length = (R.few x (whole x + 1)).length → lexB t (R.few x (whole x + 1)) = false)
  by_cases e : t.length = (R.few x (whole x + 1)).length
  · rw [if_neg (by simpa using e)] at h1
    exact ⟨by omega, fun _ => h1⟩
  · rw [if_pos e] at h1
    exact ⟨of_decide_eq_false h1, fun h => absurd h e⟩
theorem few_holds (hx : Ok x) (hw : fwOk x (whole x) = true) : F.Inc x.hands.toNat 0 (P.fewest x) ∧ (P.left x (P.set (P.fewest x))).isEmpty = true := by
  have hhd := hx.hands
  have hW : whole x < 2 ^ x.hands.toNat := by have := Nat.two_pow_pos x.hands.toNat; unfold whole; omega
  obtain ⟨m, hmW, hmf, hme⟩ : ∃ m, m ≤ whole x ∧ fwOk x m = true ∧ R.fewest x = ones 62 m := by
    rcases (R.few_spec x (whole x + 1)).1 with r1 | ⟨m, h1, h2, h3⟩
    · exact ⟨whole x, Nat.le_refl _, hw, r1⟩
    · exact ⟨m, by omega, h2, h3⟩
  rw [F.fewest_eq hx hw, hme, F.left_fw hx hw, F.set_ones (n := x.hands.toNat) (by omega) (by omega)]
  exact ⟨F.inc_ones (by omega) (by omega), hmf⟩
/-- One stretch stands ahead of another one in the list of all. -/
def Ahead (p q : Nat × Nat) : Prop := p.1 < q.1 ∨ (p.1 = q.1 ∧ p.2 < q.2)
theorem pairs_ahead (i : Nat) : ∀ k, (pairsTo k i).Pairwise Ahead ∧ ∀ p, p ∈ pairsTo k i → p.1 = i ∧ p.2 < k
  | 0 => by simp [pairsTo]
  | k+1 => by
    obtain ⟨h1, h2⟩ := pairs_ahead i k
    rw [pairsTo_succ]
    constructor
    · rw [List.pairwise_append]
      refine ⟨h1, by split <;> simp, fun a ha b hb => ?_⟩
      have := h2 a ha
      split at hb
      · rw [List.mem_singleton] at hb
        subst hb
        exact .inr ⟨this.1, this.2⟩
      · cases hb
    · intro p hp
      rcases List.mem_append.1 hp with h | h
      · have := h2 p h; omega
      · split at h
        · rw [List.mem_singleton] at h
          subst h
          exact ⟨rfl, by show k < k + 1; omega⟩
        · cases h
theorem all_ahead (n : Nat) : ∀ i, (stretchesTo n i).Pairwise Ahead ∧ ∀ p, p ∈ stretchesTo n i → p.1 < i
  | 0 => by simp [stretchesTo]
  | i+1 => by
    obtain ⟨h1, h2⟩ := all_ahead n i
    obtain ⟨h3, h4⟩ := pairs_ahead i n
    rw [stretchesTo_succ]
    constructor
    · rw [List.pairwise_append]
      exact ⟨h1, h3, fun a ha b hb => .inl (by have := h2 a ha; have := h4 b hb; omega)⟩
    · intro p hp
      rcases List.mem_append.1 hp with h | h
      · have := h2 p h; omega
      · have := h4 p h; omega
theorem sm_sorted (x : WD) : (P.smallest x).Pairwise fun p q => p.1 < q.1 := by
  have h0 : (P.smallest x).Pairwise Ahead := by
    unfold P.smallest R.short
    exact ((all_ahead x.cn x.cn).1.filter _).filter _
  refine List.Pairwise.imp_of_mem (fun {p q} hp hq h => ?_) h0
  rcases h with h | ⟨h1, h2⟩
  · exact h
  · exfalso
    have hq2 : smQ (R.short x) q = true := by unfold P.smallest at hq; exact (List.mem_filter.1 hq).2
    unfold smQ at hq2
    rw [Bool.not_eq_true', List.any_eq_false] at hq2
    apply hq2 p (sm_short hp)
    unfold innerB
    simp only [Bool.and_eq_true, decide_eq_true_iff]
    exact ⟨⟨fun e => by rw [e] at h2; omega, by omega⟩, by omega⟩
/-- No hand is there in both. -/
def NoBoth (x : WD) (p q : Nat × Nat) : Prop := ∀ h : Nat, ¬ (R.is x p.1 p.2 h = true ∧ R.is x q.1 q.2 h = true)
theorem nth_mem {l : List (Nat × Nat)} {i : Nat} (h : i < l.length) : nth l i ∈ l := by rw [nth_get l h]; exact List.getElem_mem h
theorem apart_spec (hx : Ok x) : (∀ p, p ∈ P.apart x → p ∈ P.smallest x) ∧ (P.apart x).Pairwise fun p q => p.1 < q.1 ∧ NoBoth x p q := by
  have key : apartI x (P.smallest x) = [] ∨ (F.Inc (P.smallest x).length 0 (apartI x (P.smallest x)) ∧ P.apOk x (P.smallest x) 0 (apartI x (P.smallest x)) = true) := by
    unfold apartI
    cases hf : (List.range (P.smallest x).length).findSome? fun j => pick (P.apOk x (P.smallest x) 0) (P.smallest x).length ((P.smallest x).length - j) [] 0 with
    | none => exact .inl rfl
    | some out =>
      right
      obtain ⟨j, -, hj⟩ := List.exists_of_findSome?_eq_some hf
      obtain ⟨t, h1, -, h3, h4, -⟩ := F.pick_some hj
      rw [List.nil_append] at h1
      subst h1
      exact ⟨h3, h4⟩
  unfold P.apart
  rcases key with h | ⟨h1, h2⟩
  · rw [h]; simp
  · constructor
    · intro p hp
      obtain ⟨i, hi, rfl⟩ := List.mem_map.1 hp
      exact nth_mem (h1.2 i hi).2
    · rw [List.pairwise_map]
      have h3 := (apOk_iff.1 h2).2
      have h4 := List.Pairwise.and h1.1 h3
      refine List.Pairwise.imp_of_mem (fun {i j} hi hj h => ?_) h4
      have hi' := (h1.2 i hi).2
      have hj' := (h1.2 j hj).2
      obtain ⟨⟨a1, a2⟩, -⟩ := mem_short.1 (sm_short (nth_mem hi'))
      obtain ⟨⟨b1, b2⟩, -⟩ := mem_short.1 (sm_short (nth_mem hj'))
      refine ⟨?_, fun k hk => ?_⟩
      · have := List.pairwise_iff_getElem.1 (sm_sorted x) i j hi' hj' h.1
        rw [nth_get _ hi', nth_get _ hj']; exact this
      · have : (th x (nth (P.smallest x) i).1 (nth (P.smallest x) i).2 &&& th x (nth (P.smallest x) j).1 (nth (P.smallest x) j).2).testBit k = true := by
          rw [Nat.testBit_and, th_bit hx a1 a2, th_bit hx b1 b2, hk.1, hk.2]; rfl
        rw [h.2, Nat.zero_testBit] at this
        cases this
/-- Stretches no two of which share a hand are no more than the hands that meet them all. -/
theorem meet_len : ∀ (l : List (Nat × Nat)) (t : List Nat), l.Pairwise (NoBoth x) → (∀ p, p ∈ l → metL x t p = true) → l.length ≤ t.length
  | [], t, _, _ => Nat.zero_le _
  | p :: l, t, h1, h2 => by
    rw [List.pairwise_cons] at h1
    have hp := h2 p (List.mem_cons_self ..)
    unfold metL at hp
    rw [List.any_eq_true] at hp
    obtain ⟨h, ht, hh⟩ := hp
    have ih := meet_len l (t.erase h) h1.2 fun q hq => by
      have hq2 := h2 q (List.mem_cons_of_mem _ hq)
      unfold metL at hq2 ⊢
      rw [List.any_eq_true] at hq2 ⊢
      obtain ⟨k, kt, kk⟩ := hq2
      refine ⟨k, ?_, kk⟩
      refine (List.mem_erase_of_ne fun e => ?_).2 kt
      subst e
      exact h1.1 q hq k ⟨hh, kk⟩
    rw [List.length_erase_of_mem ht] at ih
    have := List.length_pos_of_mem ht
    simp only [List.length_cons]
    omega
theorem apart_few (hx : Ok x) (hw : fwOk x (whole x) = true) : (P.apart x).length ≤ (P.fewest x).length := by
  obtain ⟨h1, h2⟩ := apart_spec hx
  refine meet_len _ _ (h2.imp fun h => h.2) fun p hp => ?_
  have h3 := (few_holds hx hw).2
  rw [left_all hx] at h3
  have h4 := List.any_eq_false.1 (show (R.short x).any (fun s => !metL x (P.fewest x) s) = false by simpa using h3) p (sm_short (h1 p hp))
  simpa using h4
end L
end HandSpec
namespace HandSpec
namespace L
open R P
theorem lexB_at : ∀ {a b : List Nat} {k : Nat}, (∀ i, i < k → a.getD i 0 = b.getD i 0) → k < a.length → k < b.length → a.getD k 0 ≠ b.getD k 0 → lexB a b = decide (a.getD k 0 < b.getD k 0)
  | [], _, _, _, h, _, _ => absurd h (by simp)
  | _ :: _, [], _, _, _, h, _ => absurd h (by simp)
  | a :: l, b :: m, 0, _, _, _, hne => by
    simp only [List.getD_cons_zero] at hne ⊢
    unfold lexB
    rw [if_pos hne]
  | a :: l, b :: m, k+1, h, h1, h2, hne => by
    have h0 := h 0 (by omega)
    simp only [List.getD_cons_zero] at h0
    subst h0
    simp only [List.getD_cons_succ] at hne ⊢
    unfold lexB
    rw [if_neg (by simp)]
    exact lexB_at (fun i hi => by have := h (i+1) (by omega); simpa using this) (by simpa using h1) (by simpa using h2) hne
/-- What Compare returns of two lists that are as long. -/
def cmpZ (a b : List Nat) : Int := if lexB a b then -1 else if a = b then 0 else 1
theorem cmpZ_neg (a b : List Nat) : decide (cmpZ a b < 0) = lexB a b := by
  unfold cmpZ
  cases lexB a b
  · rw [if_neg (by simp)]; split <;> simp
  · rw [if_pos rfl]; simp
theorem cmpZ_at {a b : List Nat} {k : Nat} (h : ∀ i, i < k → a.getD i 0 = b.getD i 0) (h1 : k < a.length) (h2 : k < b.length) (hne : a.getD k 0 ≠ b.getD k 0) : cmpZ a b = if a.getD k 0 < b.getD k 0 then -1 else 1 := by
  unfold cmpZ
  rw [lexB_at h h1 h2 hne]
  have : a ≠ b := fun e => hne (by rw [e])
  rw [if_neg this]
  by_cases hl : a.getD k 0 < b.getD k 0
  · rw [if_pos (decide_eq_true hl), if_pos hl]
  · rw [if_neg (by simpa using hl), if_neg hl]
theorem cmpZ_eq {a b : List Nat} (hl : a.length = b.length) (h : ∀ i, i < a.length → a.getD i 0 = b.getD i 0) : cmpZ a b = 0 := by
  have : a = b := List.ext_getElem hl fun i h1 h2 => by
    have := h i h1
    simpa [List.getD_eq_getElem?_getD, h1, h2] using this
  subst this
  unfold cmpZ
  rw [lexB_irrefl]
  simp
end L
end HandSpec
namespace Go.Proofs.YtkhjmedfhobebaaGreat
open Go.RowKit HandSpec
set_option maxHeartbeats 1600000
set_option maxRecDepth 100000
theorem run106 (p q a b : Nat) {w : World} {g : Nat} (hb : Blk w g 51 #[.int .i64 (a : Int), .int .i64 (b : Int)]) :
    Calls Tryz.prog 106 #[.agg #[.int .i64 (p : Int), .int .i64 (q : Int)], .pointer (some ⟨g, 0, none⟩)] w fun e w' => e = .returned (.bool (P.innerB (a, b) (p, q))) ∧ Ext w w' := by
  have k0 := hb.cell
  have kl := hb.lt
  go_enter Tryz.func106, Tryz.ntmps106
  go_wp2
  all_goals
    go_ret
    refine ⟨ret_bool ?_, (Ext.refl _).alloc _⟩
    simp [P.innerB] at *
    omega
theorem run108 {x : WD} (hx : Ok x) {w : World} {b5 b24 : Nat} {A1 A2 A3 At : Option Addr} {c1 c2 c3 n ct : Nat} (h5 : Blk w b5 26 #[.int .i64 x.hours, .int .i64 x.allow, .int .i64 x.hands, .slice A1 x.cn c1, .slice A2 x.bn c2, .slice A3 x.sn c3])
    (hv : IsW w (.agg #[.int .i64 x.hours, .int .i64 x.allow, .int .i64 x.hands, .slice A1 x.cn c1, .slice A2 x.bn c2, .slice A3 x.sn c3]) x) (h24 : Blk w b24 56 #[.slice At n ct]) {t : List Nat} (ht : SlR w 1 (.slice At n ct) (rows1 t)) (hn : t.length ≤ 1000) {a b : Nat} (hab : a < b) (hb : b < x.cn) :
    Calls Tryz.prog 108 #[.agg #[.int .i64 (a : Int), .int .i64 (b : Int)], .pointer (some ⟨b5, 0, none⟩), .pointer (some ⟨b24, 0, none⟩)] w fun e w' => e = .returned (.bool (!L.metL x t (a, b))) ∧ Ext w w' := by
  have HV := hid hv
  have HT := hid ht
  have HX := hid hx
  clear hv ht
  go_enter Tryz.func108, Tryz.ntmps108
  go_upto_region 1 with fail
  refine wp_later fun w1 hw1 => ?_
  obtain ⟨E1, b3⟩ := hw1.newB
  have k3 := b3.cell
  have k3l := b3.lt
  have k5 := (h5.ext E1).cell
  have k5l := (h5.ext E1).lt
  have k24 := (h24.ext E1).cell
  have k24l := (h24.ext E1).lt
  clear hw1
  go_wp2_with (go_at_call 93; refine (met93 HX.out (HV.out.ext E1) hab hb (HT.out.ext E1) hn).mono ?_; rintro e w2 ⟨rfl, he2⟩)
  go_ret
  exact ⟨rfl, E1.trans he2⟩
theorem cmp192 (a b : Int) (w : World) : Calls Tryz.prog 192 #[.int .i64 a, .int .i64 b] w fun e w' => e = .returned (.int .i64 (if a < b then -1 else if b < a then 1 else 0)) ∧ Ext w w' := by
  go_enter Tryz.func192, Tryz.ntmps192
  by_cases h1 : a < b
  · rw [if_pos h1]
    go_wp2_with (go_at_call 235; refine (nan235 _ _).mono ?_; rintro e w1 ⟨rfl, rfl⟩)
    go_ret
    exact ⟨rfl, Ext.refl _⟩
  · rw [if_neg h1]
    by_cases h2 : b < a
    · rw [if_pos h2]
      go_wp2_with (go_at_call 235; refine (nan235 _ _).mono ?_; rintro e w1 ⟨rfl, rfl⟩)
      go_ret
      exact ⟨rfl, Ext.refl _⟩
    · rw [if_neg h2]
      go_wp2_with (go_at_call 235; refine (nan235 _ _).mono ?_; rintro e w1 ⟨rfl, rfl⟩)
      go_ret
      exact ⟨rfl, Ext.refl _⟩
theorem compare109 {w : World} {A B : Option Addr} {n ca cb : Nat} {a b : List Nat} (ha : Rd w A n 1 (rowsAt (rows1 a))) (hb : Rd w B n 1 (rowsAt (rows1 b))) (hn : n ≤ 1000) (hla : n = a.length) (hlb : n = b.length) :
    Calls Tryz.prog 109 #[.slice A n ca, .slice B n cb] w fun e w' => e = .returned (.int .i64 (L.cmpZ a b)) ∧ Ext w w' := by
  have HA := hid ha
  have HB := hid hb
  have HLA := hid hla
  have HLB := hid hlb
  have at_ : ∀ (l : List Nat) k, n = l.length → k < n → rowsAt (rows1 l) k 0 = ((l.getD k 0 : Nat) : Int) := fun l k hl hk => by
    unfold rowsAt rows1
    simp [show k < l.length by omega]
  have AT := hid at_
  clear ha hb hla hlb at_
  go_enter Tryz.func109, Tryz.ntmps109
  go_upto_region 2 with fail
  go_loopw [11] (fun j wr => ∃ k : Nat, k ≤ n ∧ j = .int .i64 (k : Int) ∧ Hid (∀ i, i < k → a.getD i 0 = b.getD i 0) ∧ Ext w wr) (fun j _ => n - (intOf j).toNat)
  case atStart => exact ⟨0, by omega, rfl, hid fun i hi => by omega, Ext.refl _⟩
  case round =>
    obtain ⟨k, hk, rfl, hi, he⟩ := hrel
    by_cases hlt : k < n
    · obtain ⟨ga, oa, rfl, hga, p0⟩ := (HA.out.ext he).at1 hlt
      obtain ⟨gb, ob, rfl, hgb, q0⟩ := (HB.out.ext he).at1 hlt
      rw [AT.out a k HLA.out hlt] at p0
      rw [AT.out b k HLB.out hlt] at q0
      obtain ⟨za, hza⟩ : ∃ z, Hid (z = a.getD k 0) := ⟨_, hid rfl⟩
      obtain ⟨zb, hzb⟩ : ∃ z, Hid (z = b.getD k 0) := ⟨_, hid rfl⟩
      rw [← hza.out] at p0
      rw [← hzb.out] at q0
      have hki : (k : Int) < (n : Int) := by omega
      rcases Nat.lt_trichotomy za zb with h | h | h
      · have h1 : (za : Int) < (zb : Int) := by omega
        go_wp2_with (go_at_call 192; refine (cmp192 _ _ _).mono ?_; rintro e w1 ⟨rfl, he1⟩; rw [if_pos h1])
        go_ret
        refine ⟨?_, he.trans he1⟩
        rw [L.cmpZ_at hi.out (by rw [← HLA.out]; exact hlt) (by rw [← HLB.out]; exact hlt) (by rw [← hza.out, ← hzb.out]; omega), ← hza.out, ← hzb.out, if_pos h]
        rfl
      · subst h
        go_wp2_with (go_at_call 192; refine (cmp192 _ _ _).mono ?_; rintro e w1 ⟨rfl, he1⟩; rw [show (if (za : Int) < za then (-1 : Int) else if (za : Int) < za then 1 else 0) = 0 by simp])
        go_roundw
        case rel =>
          refine ⟨k + 1, by omega, by go_num, hid fun i hi' => ?_, he.trans he1⟩
          rcases Nat.lt_or_eq_of_le (Nat.le_of_lt_succ hi') with h3 | h3
          · exact hi.out i h3
          · rw [h3, ← hza.out, ← hzb.out]
        case measure => simp [intOf]; omega
      · have h1 : ¬ (za : Int) < (zb : Int) := by omega
        have h2 : (zb : Int) < (za : Int) := by omega
        go_wp2_with (go_at_call 192; refine (cmp192 _ _ _).mono ?_; rintro e w1 ⟨rfl, he1⟩; rw [if_neg h1, if_pos h2])
        go_ret
        refine ⟨?_, he.trans he1⟩
        rw [L.cmpZ_at hi.out (by rw [← HLA.out]; exact hlt) (by rw [← HLB.out]; exact hlt) (by rw [← hza.out, ← hzb.out]; omega), ← hza.out, ← hzb.out, if_neg (by omega)]
        rfl
    · obtain rfl : k = n := by omega
      go_wp2_with fail
      go_ret
      refine ⟨?_, he⟩
      rw [L.cmpZ_eq (by rw [← HLA.out, ← HLB.out]) fun i h => hi.out i (by rw [HLA.out]; exact h)]
      rfl
theorem index191 {w : World} {A : Option Addr} {n cap : Nat} {l : List (Nat × Nat)} (hr : Rd w A n 2 (rowsAt (rows2 l))) (hnl : n = l.length) (hn : n ≤ 1000) (a b : Nat) :
    Calls Tryz.prog 191 #[.slice A n cap, .agg #[.int .i64 (a : Int), .int .i64 (b : Int)]] w fun e w' => e = .returned (.int .i64 (firstI (fun k => decide (nth l k = (a, b))) n)) ∧ Ext w w' := by
  have HR := hid hr
  have HN := hid hnl
  clear hr hnl
  go_enter Tryz.func191, Tryz.ntmps191
  go_upto_region 1 with fail
  refine wp_later fun w1 hw1 => ?_
  obtain ⟨E1, b3⟩ := hw1.newB
  have B3 := hid b3
  clear hw1 b3
  go_upto_region 2 with fail
  go_loopw [8] (fun j wr => ∃ k : Nat, k ≤ n ∧ j = .int .i64 (k : Int) ∧ Hid (∀ i, i < k → decide (nth l i = (a, b)) = false) ∧ Ext w1 wr) (fun j _ => n - (intOf j).toNat)
  case atStart => exact ⟨0, by omega, rfl, hid fun i hi => by omega, Ext.refl _⟩
  case round =>
    obtain ⟨k, hk, rfl, hi, he⟩ := hrel
    have k3 := (B3.out.ext he).cell
    have k3l := (B3.out.ext he).lt
    by_cases hlt : k < n
    · obtain ⟨ga, oa, rfl, hga, p0, p1⟩ := (HR.out.ext (E1.trans he)).at2 hlt
      rw [rows2_at0 _ (by rw [← HN.out]; exact hlt)] at p0
      rw [rows2_at1 _ (by rw [← HN.out]; exact hlt)] at p1
      obtain ⟨za, hza⟩ : ∃ z, Hid (z = (nth l k).1) := ⟨_, hid rfl⟩
      obtain ⟨zb, hzb⟩ : ∃ z, Hid (z = (nth l k).2) := ⟨_, hid rfl⟩
      rw [← hza.out] at p0
      rw [← hzb.out] at p1
      have hki : (k : Int) < (n : Int) := by omega
      have hnk : Hid (nth l k = (za, zb)) := hid (by rw [hza.out, hzb.out])
      by_cases hq : za = a ∧ zb = b
      · obtain ⟨rfl, rfl⟩ := hq
        go_upto_region 4 with fail
        refine wp_region_later (by kernel_rfl) (by kernel_rfl) ?_
        repeat (go_big_quiet_step (fail))
        refine wpQuiet_nil ?_
        rintro w2 ⟨⟨_, he2⟩, rfl⟩
        go_wp2_with fail
        go_ret
        refine ⟨?_, E1.trans (he.trans he2)⟩
        rw [firstI_yes hlt hi.out (decide_eq_true hnk.out)]
        rfl
      · have hf : Hid (decide (nth l k = (a, b)) = false) := hid (decide_eq_false (by rw [hnk.out]; intro e; simp only [Prod.mk.injEq] at e; exact hq e))
        have hq2 : ¬ ((a : Int) = (za : Int)) ∨ (za = a ∧ ¬ ((b : Int) = (zb : Int))) := by omega
        clear hq
        go_upto_region 4 with fail
        rcases hq2 with h | ⟨h, h2⟩
        · refine wp_region_later (by kernel_rfl) (by kernel_rfl) ?_
          repeat (go_big_quiet_step (fail))
          refine wpQuiet_nil ?_
          rintro w2 ⟨⟨_, he2⟩, rfl⟩
          go_wp2_with fail
          go_roundw
          case rel =>
            refine ⟨k + 1, by omega, by go_num, hid fun i hi' => ?_, he.trans he2⟩
            rcases Nat.lt_or_eq_of_le (Nat.le_of_lt_succ hi') with h3 | h3
            · exact hi.out i h3
            · rw [h3]; exact hf.out
          case measure => simp [intOf]; omega
        · subst h
          refine wp_region_later (by kernel_rfl) (by kernel_rfl) ?_
          repeat (go_big_quiet_step (fail))
          refine wpQuiet_nil ?_
          rintro w2 ⟨⟨_, he2⟩, rfl⟩
          go_wp2_with fail
          go_roundw
          case rel =>
            refine ⟨k + 1, by omega, by go_num, hid fun i hi' => ?_, he.trans he2⟩
            rcases Nat.lt_or_eq_of_le (Nat.le_of_lt_succ hi') with h3 | h3
            · exact hi.out i h3
            · rw [h3]; exact hf.out
          case measure => simp [intOf]; omega
    · obtain rfl : k = n := by omega
      go_wp2_with fail
      go_ret
      refine ⟨?_, E1.trans he⟩
      rw [firstI_no hi.out]
      rfl
theorem contains104 {w : World} {A : Option Addr} {n cap : Nat} {l : List (Nat × Nat)} (hr : Rd w A n 2 (rowsAt (rows2 l))) (hnl : n = l.length) (hn : n ≤ 1000) (a b : Nat) :
    Calls Tryz.prog 104 #[.slice A n cap, .agg #[.int .i64 (a : Int), .int .i64 (b : Int)]] w fun e w' => e = .returned (.bool (decide ((a, b) ∈ l))) ∧ Ext w w' := by
  have HR := hid hr
  have HN := hid hnl
  have hv : anyTo (fun k => decide (nth l k = (a, b))) n = decide ((a, b) ∈ l) := by
    rw [Bool.eq_iff_iff, anyTo_true, decide_eq_true_iff]
    constructor
    · rintro ⟨k, hk, h1⟩
      have := of_decide_eq_true h1
      rw [← this, nth_get l (by omega)]
      exact List.getElem_mem _
    · intro h
      obtain ⟨k, hk, h1⟩ := List.getElem_of_mem h
      exact ⟨k, by omega, decide_eq_true (by rw [nth_get l hk]; exact h1)⟩
  have HF := hid (firstI_any (fun k => decide (nth l k = (a, b))) n)
  have HV := hid hv
  clear hr hnl hv
  go_enter Tryz.func104, Tryz.ntmps104
  go_upto_region 1 with fail
  refine wp_later fun w1 hw1 => ?_
  obtain ⟨E1, b3⟩ := hw1.newB
  have k3 := b3.cell
  have k3l := b3.lt
  clear hw1
  go_wp2_with (go_at_call 191; refine (index191 (HR.out.ext E1) HN.out hn a b).mono ?_; rintro e w2 ⟨rfl, he2⟩)
  go_ret
  exact ⟨ret_bool (HF.out.trans HV.out), E1.trans he2⟩
end Go.Proofs.YtkhjmedfhobebaaGreat
namespace HandSpec
namespace L
open R P Go Go.Proofs.YtkhjmedfhobebaaGreat
variable {x : WD}
theorem rows1_at (t : List Nat) {k : Nat} (h : k < t.length) : rowsAt (rows1 t) k 0 = ((t[k] : Nat) : Int) := by
  unfold rowsAt rows1
  simp [h]
theorem natL_rows1 (t : List Nat) : natL (rowsAt (rows1 t)) t.length = t := by
  unfold natL
  apply List.ext_getElem (by simp)
  intro i h1 h2
  simp only [List.getElem_map, List.getElem_range]
  rw [rows1_at t h2, Int.toNat_natCast]
theorem inc_listE (hx : Ok x) {t : List Nat} (ht : F.Inc x.hands.toNat 0 t) : lE x (rowsAt (rows1 t)) t.length = 0 := by
  have hh := hx.hands
  have h1 : badL x (rowsAt (rows1 t)) t.length = false := by
    unfold badL
    rw [anyTo_false]
    intro k hk
    rw [rows1_at t hk]
    have := (ht.2 t[k] (List.getElem_mem hk)).2
    simp [inB]; omega
  have h2 : dupL (rowsAt (rows1 t)) t.length = false := by
    unfold dupL
    rw [anyTo_false]
    intro k hk
    rw [anyTo_false]
    intro i hi
    rw [rows1_at t hk, rows1_at t (by omega)]
    have := List.pairwise_iff_getElem.1 ht.1 i k (by omega) hk hi
    simp; omega
  unfold lE listE
  rw [if_neg (fun h => h (chk_of hx)), h1, h2]
  simp
theorem left_nil {l : List (Nat × Nat)} : l.isEmpty = decide (l.length = 0) := by
  cases l <;> simp
theorem inc_up {n : Nat} {t : List Nat} (h : F.Inc n 0 t) : F.Inc (n + 1) 0 t := ⟨h.1, fun i hi => by have := h.2 i hi; omega⟩
theorem inc_push {n : Nat} {t : List Nat} (h : F.Inc n 0 t) : F.Inc (n + 1) 0 (t ++ [n]) := by
  refine ⟨?_, fun i hi => ?_⟩
  · rw [List.pairwise_append]
    refine ⟨h.1, by simp, fun a ha b hb => ?_⟩
    rw [List.mem_singleton] at hb
    have := h.2 a ha; omega
  · rcases List.mem_append.1 hi with h1 | h1
    · have := h.2 i h1; omega
    · rw [List.mem_singleton] at h1; omega
end L
end HandSpec
namespace Go.Proofs.YtkhjmedfhobebaaGreat
open Go.RowKit HandSpec
theorem _root_.Go.Sx.setCellG {d : SackD} {k : Nat} {w w' : World} (h : Sx d k w w') (g i : Nat) (u : Value) (hp : w.heap.size ≤ g) (hne : g ≠ d.blk) : Sx d k w (w'.setCell ⟨g, i, none⟩ u) := by
  refine ⟨h.1, by simpa using h.2.1, fun b hb hs => (Below.heap_setCell w' ⟨g, i, none⟩ u b (by show b ≠ g; omega)).trans (h.2.2.1 b hb hs), fun t ht => ?_⟩
  obtain ⟨t', h1, h2, m, h3⟩ := h.2.2.2 t ht
  exact ⟨t', h1, h2, m, h3.far (fun e => hne e.symm) _⟩
/-- The hands that are tried, while they are listed. -/
structure TL (d : SackD) (w11 : World) (g24 k h : Nat) (Ah : Option Addr) (ch : Nat) (t : List Nat) (W : World) : Prop where
  x : Sx d (k + h) w11 W
  b : Blk W g24 56 #[.slice Ah t.length ch]
  o : OwnR W (g24 + 1) 3 1 (.slice Ah t.length ch) (rows1 t)
  inc : F.Inc h 0 t
theorem TL.sx {d : SackD} {w11 : World} {g24 k h : Nat} {Ah : Option Addr} {ch : Nat} {t : List Nat} {W Wg : World} (T : TL d w11 g24 k h Ah ch t W) (xg : Sx d 1 W Wg) (hd : d.blk < w11.heap.size) (hg : w11.heap.size ≤ g24) : TL d w11 g24 k (h + 1) Ah ch t Wg :=
  ⟨T.x.trans xg, T.b.sx xg (by omega), T.o.sx xg (fun e => by have := T.o.block e; omega), L.inc_up T.inc⟩
/-- The hands that are tried. -/
structure TR (x : WD) (d : SackD) (w11 : World) (g24 k : Nat) (At : Option Addr) (ct : Nat) (t : List Nat) (W : World) : Prop where
  sx : Sx d k w11 W
  b : Blk W g24 56 #[.slice At t.length ct]
  r : SlR W 1 (.slice At t.length ct) (rows1 t)
  inc : F.Inc x.hands.toNat 0 t
theorem asks108 {x : WD} (hx : Ok x) {W : World} {b5 b24 : Nat} {A1 A2 A3 At : Option Addr} {c1 c2 c3 n ct : Nat} (h5 : Blk W b5 26 #[.int .i64 x.hours, .int .i64 x.allow, .int .i64 x.hands, .slice A1 x.cn c1, .slice A2 x.bn c2, .slice A3 x.sn c3])
    (hv : IsW W (.agg #[.int .i64 x.hours, .int .i64 x.allow, .int .i64 x.hands, .slice A1 x.cn c1, .slice A2 x.bn c2, .slice A3 x.sn c3]) x) (h24 : Blk W b24 56 #[.slice At n ct]) {t : List Nat} (ht : SlR W 1 (.slice At n ct) (rows1 t)) (hn : t.length ≤ 1000) {l : List (Nat × Nat)} (hl : ∀ s ∈ l, s.1 < s.2 ∧ s.2 < x.cn) {m : Nat} (hm : m = l.length) :
    Asks W (.func (.func 108) #[] #[.pointer (some ⟨b5, 0, none⟩), .pointer (some ⟨b24, 0, none⟩)]) m (enc2 (rowsAt (rows2 l))) (fun k => !L.metL x t (nth l k)) := by
  subst hm
  exact ⟨_, _, rfl, enters_ Tryz.func108 (by kernel_rfl) rfl, fun k hk W' e => by
    have h := hl (nth l k) (L.nth_mem hk)
    unfold enc2
    rw [rows2_at0 _ hk, rows2_at1 _ hk]
    exact run108 hx (h5.ext e) (hv.ext e) (h24.ext e) (ht.ext e) hn h.1 h.2⟩
theorem own_cap {w : World} {B c n q : Nat} {e : TypeId} {A : Option Addr} {l : List (List Int)} (h : OwnR w B e c (.slice A n q) l) : l.length ≤ q := by
  rcases OwnR.arr h with ⟨-, h2⟩ | ⟨g, cap, h1, -, h3, -⟩
  · rw [h2]; exact Nat.zero_le _
  · simp only [Value.slice.injEq] at h1
    obtain ⟨-, -, rfl⟩ := h1
    exact h3
/-- No hand that is there in two stretches of them is left. -/
theorem no_both {x : WD} (hx : Ok x) {i j : Nat} (hij : i < j) (hj : j < (P.apart x).length) (h : Nat) : (R.is x (nth (P.apart x) j).1 (nth (P.apart x) j).2 h && R.is x (nth (P.apart x) i).1 (nth (P.apart x) i).2 h) = false := by
  have h1 := List.pairwise_iff_getElem.1 (L.apart_spec hx).2 i j (by omega) hj hij
  rw [nth_get _ hj, nth_get _ (show i < _ by omega)]
  have h2 := h1.2 h
  rw [Bool.eq_false_iff]
  intro h3
  rw [Bool.and_eq_true] at h3
  exact h2 ⟨h3.2, h3.1⟩
/-- What is tried is not in what must not be left. -/
theorem left_met {x : WD} (hx : Ok x) {t : List Nat} {s : Nat × Nat} (hs : s ∈ P.smallest x) {m : Bool} (hm : m = L.metL x t s) : decide (s ∈ P.left x (P.set t)) = !m := by
  rw [hm, Bool.eq_iff_iff, decide_eq_true_iff, L.mem_left hx, Bool.not_eq_true']
  exact ⟨fun h => h.2, fun h => ⟨hs, h⟩⟩
/-- Less than nothing is no length. -/
theorem cmp_few {x : WD} (hx : Ok x) (hw : R.fwOk x (R.whole x) = true) {t : List Nat} (ht : F.Inc x.hands.toNat 0 t) (h : (P.left x (P.set t)).isEmpty = true) {nt nf : Nat} (h1 : nt = t.length) (h2 : nf = (P.fewest x).length) : ¬ nt < nf ∧ (nt = nf → ¬ L.cmpZ t (P.fewest x) < 0) := by
  obtain ⟨h3, h4⟩ := L.few_first hx hw ht h
  refine ⟨by omega, fun e h0 => ?_⟩
  have h5 := L.cmpZ_neg t (P.fewest x)
  rw [h4 (by omega), decide_eq_false_iff_not] at h5
  exact h5 h0
end Go.Proofs.YtkhjmedfhobebaaGreat
