/- Walks of the reference: Circle (79), Circles (74). The debts are right ones. Walk of the reference's Cancel (75). The debts are right ones; the circle's capacity is no less than its length. Walks: Cancel (77) and Net (32), with what they hand back beside an error. The circle's capacity is no less than its length. -/
import Derived.Test.YtbceepjjdfpfmaaGreatCir
import Derived.Test.YtbceepjjdfpfmaaGreatGrpC
import Derived.Test.YtbceepjjdfpfmaaGreatRefA
import Derived.Test.YtbceepjjdfpfmaaGreatRefS
import Derived.Test.YtbceepjjdfpfmaaGreatCanB
namespace Go.Proofs.YtbceepjjdfpfmaaGreat
open Go.RowKit HandSpec LoanSpec
set_option maxHeartbeats 4000000
set_option maxRecDepth 100000
/-- A place of a list is none, or has come before. -/
def badC (n : Nat) (f : Nat → Int) (k : Nat) : Bool := offB (f k) 0 ((n : Int) - 1) || hasB f k (f k)
/-- Whether a list is a circle. -/
def circB (n : Nat) (g : Nat → Nat → Int) (f : Nat → Int) (L : Nat) : Bool := !anyTo (badC n f) L && (!anyTo (fun k => g (f k).toNat (f (nxtC L k)).toNat == 0) L && decide (1 < L))
theorem circle79 {w : World} {A Ac : Option Addr} {n cap L capc : Nat} {g : Nat → Nat → Int} {f : Nat → Int} (hr : RdN w A n (fun _ => n) g) (hn : n ≤ 1000) (hc : Rd w Ac L 1 (fun k _ => f k)) (hL : L ≤ 1000) (hcap : L ≤ capc) :
    Calls Tryz.prog 79 #[.slice A n cap, .slice Ac L capc] w fun e w' => e = .returned (.bool (circB n g f L)) ∧ Ext w w' := by
  have HR := hid hr
  have HC := hid hc
  clear hr hc
  obtain ⟨cb, hcb⟩ : ∃ b, Hid (circB n g f L = b) := ⟨_, hid rfl⟩
  rw [hcb.out]
  go_enter Tryz.func79, Tryz.ntmps79
  go_upto_region 2 with fail
  go_loopw [5] (fun i W => ∃ k : Nat, k ≤ L ∧ i = .int .i64 (k : Int) ∧ Hid (∀ j, j < k → badC n f j = false) ∧ Hid (Ext w W)) (fun i _ => L - (intOf i).toNat)
  case atStart => exact ⟨0, Nat.zero_le _, rfl, hid fun _ h => absurd h (by omega), hid (Ext.refl _)⟩
  case round =>
    obtain ⟨k, hk, rfl, hp, D⟩ := hrel
    by_cases hlk : k < L
    · obtain ⟨b, o, rfl, hb, hck⟩ := (HC.out.ext D.out).at1 hlk
      have hbk := hid (show badC n f k = (offB (f k) 0 ((n : Int) - 1) || hasB f k (f k)) from rfl)
      obtain ⟨z, hz⟩ : ∃ z, Hid (f k = z) := ⟨_, hid rfl⟩
      rw [hz.out] at hck hbk
      have hkc : k ≤ capc := by omega
      have hkc1 : (k : Int) ≤ (capc : Int) := by omega
      have C94 : Hid (∀ m : Later wr, Calls Tryz.prog 94 #[.int .i64 z, .int .i64 0, .int .i64 ((n : Int) - 1)] m.at_ fun e w' => e = .returned (.bool (offB z 0 ((n : Int) - 1))) ∧ Ext m.at_ w') := hid (fun m => (off_any z 0 ((n : Int) - 1) m.at_).mono (fun e w' h => ⟨h.1, h.2 ▸ Ext.refl _⟩))
      have C81 := hid (fun (m : Later wr) => has81 (cap := capc) (rd_take ((HC.out.ext D.out).ext m.ok) (show k ≤ L by omega)) (by omega) z)
      obtain ⟨q1, hq1⟩ : ∃ q, Hid (offB z 0 ((n : Int) - 1) = q) := ⟨_, hid rfl⟩
      have hbk := hid (show badC n f k = (q1 || hasB (fun k => f k) k z) by rw [hbk.out, hq1.out])
      obtain ⟨q2, hq2⟩ : ∃ q, Hid (hasB (fun k => f k) k z = q) := ⟨_, hid rfl⟩
      rw [hq1.out] at C94
      rw [hq2.out] at C81 hbk
      go_upto_region 4 with fail
      cases q1
      · cases q2
        · refine wp_region_later (by kernel_rfl) (by kernel_rfl) ?_
          repeat (go_big_quiet_step ((first | (go_at_call 94; exact Calls.later (C94.out _)) | (go_at_call 81; exact Calls.later (C81.out _)))))
          refine wpQuiet_nil ?_
          rintro w7 ⟨⟨_, he7⟩, rfl⟩
          go_wp2_with fail
          go_roundw
          case rel => exact ⟨k + 1, by omega, by go_num, anyTo_step hp.out hbk.out, hid (D.out.trans he7)⟩
          case measure => simp [intOf]; omega
        · refine wp_region_later (by kernel_rfl) (by kernel_rfl) ?_
          repeat (go_big_quiet_step ((first | (go_at_call 94; exact Calls.later (C94.out _)) | (go_at_call 81; exact Calls.later (C81.out _)))))
          refine wpQuiet_nil ?_
          rintro w7 ⟨⟨_, he7⟩, rfl⟩
          go_wp2_with fail
          go_ret
          have h := hcb.out
          unfold circB at h
          rw [anyTo_true.2 ⟨k, hlk, hbk.out⟩] at h
          exact ⟨by rw [← h]; rfl, D.out.trans he7⟩
      · refine wp_region_later (by kernel_rfl) (by kernel_rfl) ?_
        repeat (go_big_quiet_step ((first | (go_at_call 94; exact Calls.later (C94.out _)) | (go_at_call 81; exact Calls.later (C81.out _)))))
        refine wpQuiet_nil ?_
        rintro w7 ⟨⟨_, he7⟩, rfl⟩
        go_wp2_with fail
        go_ret
        have h := hcb.out
        unfold circB at h
        rw [anyTo_true.2 ⟨k, hlk, by rw [hbk.out]; rfl⟩] at h
        exact ⟨by rw [← h]; rfl, D.out.trans he7⟩
    · have hkL : k = L := by omega
      rw [hkL] at hp
      clear hkL hk
      have hh := hid (show cb = (!anyTo (fun k => g (f k).toNat (f (nxtC L k)).toNat == 0) L && decide (1 < L)) by rw [← hcb.out]; unfold circB; rw [anyTo_false.2 hp.out]; rfl)
      go_upto_region 7 with fail
      obtain ⟨W0, hW0⟩ : ∃ W : World, Hid (W = wr) := ⟨_, hid rfl⟩
      rw [← hW0.out] at D
      go_loopw [6] (fun i W => ∃ k : Nat, k ≤ L ∧ i = .int .i64 (k : Int) ∧ Hid (∀ j, j < k → (g (f j).toNat (f (nxtC L j)).toNat == 0) = false) ∧ Hid (Ext w W)) (fun i _ => L - (intOf i).toNat)
      case atStart => exact ⟨0, Nat.zero_le _, rfl, hid fun _ h => absurd h (by omega), hid (by rw [← hW0.out]; exact D.out)⟩
      case round =>
        clear D
        obtain ⟨k, hk, rfl, hp2, D⟩ := hrel
        by_cases hlk : k < L
        · obtain ⟨q, hq⟩ : ∃ q, Hid (q = nxtC L k) := ⟨_, hid rfl⟩
          have hmod : Int.tmod ((k : Int) + 1) (L : Int) = (q : Int) := by rw [hq.out]; rfl
          have hqL : q < L := by rw [hq.out]; exact Nat.mod_lt _ (by omega)
          obtain ⟨b, o, rfl, hb, hck⟩ := (HC.out.ext D.out).at1 hlk
          obtain ⟨b2, o2, h2, -, hcq⟩ := (HC.out.ext D.out).at1 hqL
          cases h2
          have i1 := hp.out k hlk
          have i2 := hp.out q hqL
          unfold badC at i1 i2
          rw [Bool.or_eq_false_iff] at i1 i2
          have i1 := offB_no i1.1
          have i2 := offB_no i2.1
          obtain ⟨x, hx⟩ : ∃ x, Hid (x = (f k).toNat) := ⟨_, hid rfl⟩
          obtain ⟨y, hy⟩ : ∃ y, Hid (y = (f q).toNat) := ⟨_, hid rfl⟩
          have hfx : f k = (x : Int) := by have := hx.out; omega
          have hfy : f q = (y : Int) := by have := hy.out; omega
          have hxn : x < n := by omega
          have hyn : y < n := by omega
          rw [hfx] at hck
          rw [hfy] at hcq
          obtain ⟨bA, oA, Bx, Cx, rfl, hbA, hrow, hRow⟩ := (HR.out.ext D.out).at_ hxn
          obtain ⟨bx, ox, rfl, hbx, hz⟩ := hRow.at1 hyn
          obtain ⟨z, hzv⟩ : ∃ z, Hid (g x y = z) := ⟨_, hid rfl⟩
          have hze := hid (show (g (f k).toNat (f (nxtC L k)).toNat == 0) = (z == 0) by rw [← hq.out, ← hx.out, ← hy.out, hzv.out])
          rw [hzv.out] at hz
          clear hRow i1 i2 hfx hfy
          go_upto_region 9 with fail
          by_cases hz0 : z = 0
          · have tz : (z == 0) = true := by simpa using hz0
            clear hz0
            refine wp_region_later (by kernel_rfl) (by kernel_rfl) ?_
            repeat (go_big_quiet_step (fail))
            refine wpQuiet_nil ?_
            rintro w7 ⟨⟨_, he7⟩, rfl⟩
            go_wp2_with fail
            go_ret
            have h := hh.out
            rw [anyTo_true.2 ⟨k, hlk, by rw [hze.out]; exact tz⟩] at h
            exact ⟨by rw [h]; rfl, D.out.trans he7⟩
          · have tz : (z == 0) = false := by simpa using hz0
            clear hz0
            refine wp_region_later (by kernel_rfl) (by kernel_rfl) ?_
            repeat (go_big_quiet_step (fail))
            refine wpQuiet_nil ?_
            rintro w7 ⟨⟨_, he7⟩, rfl⟩
            go_wp2_with fail
            go_roundw
            case rel => exact ⟨k + 1, by omega, by go_num, anyTo_step hp2.out (by rw [hze.out]; exact tz), hid (D.out.trans he7)⟩
            case measure => simp [intOf]; omega
        · have hkL : k = L := by omega
          rw [hkL] at hp2
          have h := hh.out
          rw [anyTo_false.2 hp2.out] at h
          have HH := hid h
          by_cases h1 : 1 < L
          · have t1 : (L : Int) > 1 := by omega
            have hf := hid (show cb = true by rw [HH.out, decide_eq_true h1]; rfl)
            clear h1 h
            go_wp2_with fail
            go_ret
            exact ⟨by rw [hf.out]; rfl, D.out⟩
          · have t1 : ¬ (L : Int) > 1 := by omega
            have hf := hid (show cb = false by rw [HH.out, decide_eq_false h1]; rfl)
            clear h1 h
            go_wp2_with fail
            go_ret
            exact ⟨by rw [hf.out]; rfl, D.out⟩
theorem has_mem (l : List Nat) (t : Nat) : hasB (fun k => rowsAt (rows1 l) k 0) l.length (t : Int) = decide (t ∈ l) := by
  by_cases h : t ∈ l
  · rw [decide_eq_true h]
    obtain ⟨i, hi, e⟩ := mem_getD h
    refine anyTo_true.2 ⟨i, hi, ?_⟩
    rw [List.getD_eq_getElem?_getD, List.getElem?_eq_getElem hi] at e
    simp [rowsAt, rows1, hi]
    rw [← e]; rfl
  · rw [decide_eq_false h]
    refine anyTo_false.2 fun k hk => ?_
    rw [beq_eq_false_iff_ne]
    simp [rowsAt, rows1, hk]
    intro e
    have : l[k] = t := by omega
    exact h (this ▸ List.getElem_mem _)
theorem circles74 {w : World} {A : Option Addr} {n cap : Nat} {g : Nat → Nat → Int} (hr : RdN w A n (fun _ => n) g) (hd : DOk n g) :
    Calls Tryz.prog 74 #[.slice A n cap] w fun e w' => e = .returned (.bool (decide ((strike g n n).length < n))) ∧ Ext w w' := by
  have HR := hid hr
  have hn7 := hd.hn
  clear hr hd
  have hlen := hid (fun r => (show (strike g n r).length ≤ n from nodup_len n _ (strike_gone r).nd (strike_gone r).lt))
  have hlenA := hid (fun r a (ha : a ≤ n) => (show (strikeA g n (strike g n r) a).length ≤ n from nodup_len n _ ((strike_gone r).strikeA a ha).nd ((strike_gone r).strikeA a ha).lt))
  go_enter Tryz.func74, Tryz.ntmps74
  go_upto_region 3 with fail
  go_loopw [3, 4] (fun v i W => ∃ r : Nat, r ≤ n ∧ i = .int .i64 (r : Int) ∧ Hid (OwnR W w.heap.size 3 1 v (rows1 (strike g n r))) ∧ Hid (Ext w W)) (fun _ i _ => n - (intOf i).toNat)
  case atStart => exact ⟨0, Nat.zero_le _, rfl, hid OwnR.nil, hid (Ext.refl _)⟩
  case round =>
    obtain ⟨r, hr, rfl, HO, D⟩ := hrel
    by_cases hlr : r < n
    · go_upto_region 6 with fail
      have hs0 := hid (show strikeA g n (strike g n r) 0 = strike g n r from rfl)
      have hsn := hid (show strike g n (r + 1) = strikeA g n (strike g n r) n from rfl)
      have hss := hid (fun a => (show strikeA g n (strike g n r) (a + 1) = if owesB g n (strikeA g n (strike g n r) a) a || decide (a ∈ strikeA g n (strike g n r) a) then strikeA g n (strike g n r) a else strikeA g n (strike g n r) a ++ [a] from rfl))
      have hll := hid (fun a (ha : a ≤ n) => hlenA.out r a ha)
      rw [← hs0.out] at HO
      obtain ⟨G, hG⟩ : ∃ G : Nat → List Nat, Hid (strikeA g n (strike g n r) = G) := ⟨_, hid rfl⟩
      rw [hG.out] at hs0 hsn hss hll HO
      obtain ⟨W0, hW0⟩ : ∃ W : World, Hid (W = wr) := ⟨_, hid rfl⟩
      rw [← hW0.out] at HO D
      go_loopw [3, 5] (fun v i W => ∃ a : Nat, a ≤ n ∧ i = .int .i64 (a : Int) ∧ Hid (OwnR W w.heap.size 3 1 v (rows1 (G a))) ∧ Hid (Ext w W)) (fun _ i _ => n - (intOf i).toNat)
      case atStart => exact ⟨0, Nat.zero_le _, rfl, hid (by rw [← hW0.out]; exact HO.out), hid (by rw [← hW0.out]; exact D.out)⟩
      case round =>
        clear HO D
        obtain ⟨a, ha, rfl, HO, D⟩ := hrel
        by_cases hla : a < n
        · obtain ⟨Ag, cg, rfl, rg⟩ := HO.out.slR
          have hl := hll.out a ha
          have hst := hid (hss.out a)
          have hap := hid (rows1_append (G a) [a])
          rw [rows1_length] at rg HO ⊢
          obtain ⟨l, hlv⟩ : ∃ l, Hid (G a = l) := ⟨_, hid rfl⟩
          rw [hlv.out] at rg HO hl hst hap ⊢
          have RG := hid rg
          clear rg
          go_upto_region 10 with fail
          obtain ⟨W1, hW1⟩ : ∃ W : World, Hid (W = wr) := ⟨_, hid rfl⟩
          rw [← hW1.out] at HO D RG
          go_loopw [6, 7] (fun o i W => ∃ b : Nat, b ≤ n ∧ i = .int .i64 (b : Int) ∧ o = .bool (anyTo (fun b => decide (0 < g a b) && !decide (b ∈ l)) b) ∧ Hid (Ext W1 W)) (fun _ i _ => n - (intOf i).toNat)
          case atStart => exact ⟨0, Nat.zero_le _, rfl, rfl, hid (by rw [← hW1.out]; exact Ext.refl _)⟩
          case round =>
            obtain ⟨b, hb, rfl, rfl, F⟩ := hrel
            by_cases hlb : b < n
            · have hsb := hid (show anyTo (fun b => decide (0 < g a b) && !decide (b ∈ l)) (b + 1) = (anyTo (fun b => decide (0 < g a b) && !decide (b ∈ l)) b || (decide (0 < g a b) && !decide (b ∈ l))) from rfl)
              obtain ⟨bA, oA, Bx, Cx, rfl, hbA, hrow, hRow⟩ := (HR.out.ext (D.out.trans F.out)).at_ hla
              obtain ⟨bx, ox, rfl, hbx, hz⟩ := hRow.at1 hlb
              have hhm := hid (has_mem l b)
              obtain ⟨z, hzv⟩ : ∃ z, Hid (g a b = z) := ⟨_, hid rfl⟩
              obtain ⟨q0, hq0⟩ : ∃ q, Hid (anyTo (fun b => decide (0 < g a b) && !decide (b ∈ l)) b = q) := ⟨_, hid rfl⟩
              obtain ⟨q2, hq2⟩ : ∃ q, Hid (decide (b ∈ l) = q) := ⟨_, hid rfl⟩
              rw [hzv.out] at hz
              rw [hq0.out, hzv.out, hq2.out] at hsb
              rw [hq2.out] at hhm
              rw [hq0.out]
              clear hRow
              cases q0
              · by_cases hz0 : 0 < z
                · have tz : z > 0 := hz0
                  have hsb := hid (show anyTo (fun b => decide (0 < g a b) && !decide (b ∈ l)) (b + 1) = !q2 by rw [hsb.out, decide_eq_true hz0]; simp)
                  clear hz0
                  go_wp2_with (go_at_call 81; (with_reducible refine (has81 (RG.out.ext F.out) (by omega) (b : Int)).mono ?_); rintro e wz ⟨rfl, he⟩; rw [hhm.out]; have F := hid (F.out.trans he); clear he)
                  go_roundw
                  case rel => exact ⟨b + 1, by omega, by go_num, by rw [hsb.out], F⟩
                  case measure => simp [intOf]; omega
                · have tz : ¬ z > 0 := hz0
                  have hsb := hid (show anyTo (fun b => decide (0 < g a b) && !decide (b ∈ l)) (b + 1) = false by rw [hsb.out, decide_eq_false hz0]; simp)
                  clear hz0
                  go_wp2_with fail
                  go_roundw
                  case rel => exact ⟨b + 1, by omega, by go_num, by rw [hsb.out], F⟩
                  case measure => simp [intOf]; omega
              · have hsb := hid (show anyTo (fun b => decide (0 < g a b) && !decide (b ∈ l)) (b + 1) = true by rw [hsb.out]; simp)
                go_wp2_with fail
                go_roundw
                case rel => exact ⟨b + 1, by omega, by go_num, by rw [hsb.out], F⟩
                case measure => simp [intOf]; omega
            · have hbn : b = n := by omega
              subst hbn
              have hha := hid (has_mem l a)
              have hst := hid (show G (a + 1) = if anyTo (fun b => decide (0 < g a b) && !decide (b ∈ l)) b || decide (a ∈ l) then l else l ++ [a] from hst.out)
              obtain ⟨q0, hq0⟩ : ∃ q, Hid (anyTo (fun b => decide (0 < g a b) && !decide (b ∈ l)) b = q) := ⟨_, hid rfl⟩
              obtain ⟨q2, hq2⟩ : ∃ q, Hid (decide (a ∈ l) = q) := ⟨_, hid rfl⟩
              rw [hq0.out, hq2.out] at hst
              rw [hq2.out] at hha
              rw [hq0.out]
              have HO := hid (HO.out.ext F.out)
              have E := hid (D.out.trans F.out)
              cases q0
              · cases q2
                · have hst := hid (show G (a + 1) = l ++ [a] by rw [hst.out]; rfl)
                  go_upto_region 14 with (go_at_call 81; (with_reducible refine (has81 (RG.out.ext F.out) (by omega) (a : Int)).mono ?_); rintro e wz ⟨rfl, he⟩; rw [hha.out]; have E := hid (E.out.trans he); have HO := hid (HO.out.ext he); clear he)
                  go_wp2_with (at_builtin; refine wpList_append_rows rfl _ _ 22 rfl el22 rfl (HO.out.ext (Ext.alloc (Ext.refl _) _)) _ 1 1 [[(a : Int)]] rfl rfl (by simp) (by intro j; simp [cellsOf]) (by rw [rows1_length]; omega) (by have := E.out.size; simp; omega) ?_; intro vo w9 ho9 hg9; have HO9 := hid ho9; have E9 := hid ((E.out.alloc _).grown hg9 (fun q hq => HO.out.block hq)); clear ho9 hg9)
                  go_roundw
                  case rel => exact ⟨a + 1, by omega, by go_num, hid (by rw [hst.out, hap.out]; exact HO9.out), E9⟩
                  case measure => simp [intOf]; omega
                · have hst := hid (show G (a + 1) = l by rw [hst.out]; rfl)
                  go_wp2_with (go_at_call 81; (with_reducible refine (has81 (RG.out.ext F.out) (by omega) (a : Int)).mono ?_); rintro e wz ⟨rfl, he⟩; rw [hha.out]; have E := hid (E.out.trans he); have HO := hid (HO.out.ext he); clear he)
                  go_roundw
                  case rel => exact ⟨a + 1, by omega, by go_num, hid (by rw [hst.out]; exact HO.out), E⟩
                  case measure => simp [intOf]; omega
              · have hst := hid (show G (a + 1) = l by rw [hst.out]; rfl)
                go_wp2_with fail
                go_roundw
                case rel => exact ⟨a + 1, by omega, by go_num, hid (by rw [hst.out]; exact HO.out), E⟩
                case measure => simp [intOf]; omega
        · have han : a = n := by omega
          rw [han] at HO
          have HS := hid (show OwnR wr w.heap.size 3 1 u3 (rows1 (strike g n (r + 1))) by rw [hsn.out]; exact HO.out)
          clear HO
          go_wp2_with fail
          go_roundw
          case rel => exact ⟨r + 1, by omega, by go_num, HS, D⟩
          case measure => simp [intOf]; omega
    · have hrn : r = n := by omega
      rw [hrn] at HO
      obtain ⟨Ag, cg, rfl, rg⟩ := HO.out.slR
      rw [rows1_length]
      obtain ⟨M, hM⟩ : ∃ M, Hid ((strike g n n).length = M) := ⟨_, hid rfl⟩
      rw [hM.out]
      by_cases hl : M < n
      · have tl : (M : Int) < (n : Int) := by omega
        have hd := hid (decide_eq_true hl)
        clear hl
        go_wp2_with fail
        go_ret
        exact ⟨by rw [hM.out, hd.out]; rfl, D.out⟩
      · have tl : ¬ (M : Int) < (n : Int) := by omega
        have hd := hid (decide_eq_false hl)
        clear hl
        go_wp2_with fail
        go_ret
        exact ⟨by rw [hM.out, hd.out]; rfl, D.out⟩
end Go.Proofs.YtbceepjjdfpfmaaGreat
namespace Go.Proofs.YtbceepjjdfpfmaaGreat
open Go.RowKit HandSpec LoanSpec
set_option maxHeartbeats 4000000
set_option maxRecDepth 100000
/-- An own table of k rows of n numbers, each row in a block of its own. -/
structure Tb (w : World) (B : Nat) (v : Value) (L : List Value) (r c : Nat → Nat) (n k : Nat) (m : Nat → Nat → Int) : Prop where
  o : OwnV w B 22 v L
  ll : L.length = k
  rr : ∀ i, i < k → L[i]? = some (.slice (some ⟨r i, 0, none⟩) n (c i)) ∧ ArrB w (r i) 3 n (m i)
  lo : ∀ i, i < k → B ≤ r i
  ne : ∀ i j, i < k → j < k → i ≠ j → r i ≠ r j
namespace Tb
variable {w w' : World} {B : Nat} {v v' : Value} {L : List Value} {r c : Nat → Nat} {n k : Nat} {m : Nat → Nat → Int}
theorem ext (h : Tb w B v L r c n k m) (e : Ext w w') : Tb w' B v L r c n k m := ⟨h.o.ext e, h.ll, fun i hi => ⟨(h.rr i hi).1, (h.rr i hi).2.ext e⟩, h.lo, h.ne⟩
theorem app {g cc : Nat} {f : Nat → Int} (h : Tb w B v L r c n k m) (ha : ArrB w g 3 n f) (hgB : B ≤ g) (hgn : ∀ i, i < k → r i ≠ g) (hv : OwnV w' B 22 v' (L ++ [.slice (some ⟨g, 0, none⟩) n cc])) (hg : w.grownBy w' v.ownBlock) :
    Tb w' B v' (L ++ [.slice (some ⟨g, 0, none⟩) n cc]) (updR r k g) (updR c k cc) n (k + 1) (updR m k f) := by
  refine ⟨hv, by rw [List.length_append, h.ll]; rfl, fun i hi => ?_, fun i hi => ?_, fun i j hi hj hij => ?_⟩
  · by_cases e : i = k
    · subst e
      rw [updR_same, updR_same, updR_same]
      exact ⟨by rw [List.getElem?_append_right (by rw [h.ll]; exact Nat.le_refl _), h.ll]; simp, ha.same (hg.block _ ha.lt fun q => ha.ne h.o (by decide) q.symm)⟩
    · obtain ⟨h1, h2⟩ := h.rr i (by omega)
      rw [updR_other _ _ e, updR_other _ _ e, updR_other _ _ e]
      exact ⟨by rw [List.getElem?_append_left (by rw [h.ll]; omega)]; exact h1, h2.same (hg.block _ h2.lt fun q => h2.ne h.o (by decide) q.symm)⟩
  · by_cases e : i = k
    · subst e; rw [updR_same]; exact hgB
    · rw [updR_other _ _ e]; exact h.lo i (by omega)
  · by_cases e : i = k
    · subst e
      rw [updR_same, updR_other _ _ (fun q => hij q.symm)]
      exact fun q => hgn j (by omega) q.symm
    · by_cases e' : j = k
      · subst e'
        rw [updR_same, updR_other _ _ e]
        exact hgn i (by omega)
      · rw [updR_other _ _ e, updR_other _ _ e']
        exact h.ne i j (by omega) (by omega) hij
theorem put (h : Tb w B v L r c n k m) {i j : Nat} (hi : i < k) (z : Int) : Tb (w.setCell ⟨r i, j, none⟩ (.int .i64 z)) B v L r c n k (upd2 m i j z) := by
  refine ⟨h.o.same fun q hq => Below.heap_setCell _ _ _ _ (fun e => (h.rr i hi).2.ne h.o (by decide) (by rw [hq, e])), h.ll, fun a ha => ⟨(h.rr a ha).1, ?_⟩, h.lo, h.ne⟩
  unfold upd2
  by_cases e : a = i
  · subst e
    rw [updR_same]
    exact (h.rr a ha).2.set_ j z
  · rw [updR_other _ _ e]
    exact (h.rr a ha).2.far (p := ⟨r i, j, none⟩) (h.ne a i ha hi e) _
theorem rdN (h : Tb w B v L r c n k m) : ∃ A cp, v = .slice A k cp ∧ RdN w A k (fun _ => n) m := by
  obtain ⟨A, cap, hv, -, hr⟩ := h.o.rd
  rw [h.ll] at hv hr
  refine ⟨A, cap, hv, fun i => some ⟨r i, 0, none⟩, c, hr.congr fun i hi => ?_, fun i hi => (h.rr i hi).2.rd fun _ => rfl⟩
  rw [List.getD_eq_getElem?_getD, (h.rr i hi).1]; rfl
theorem congr {m' : Nat → Nat → Int} (h : Tb w B v L r c n k m) (e : ∀ i, i < k → ∀ j, j < n → m i j = m' i j) : Tb w B v L r c n k m' := ⟨h.o, h.ll, fun i hi => ⟨(h.rr i hi).1, (h.rr i hi).2.congr (e i hi)⟩, h.lo, h.ne⟩
/-- Where the table lies, and its rows. -/
theorem at_ (h : Tb w B v L r c n k m) (hk : 0 < k) : ∃ g cp, v = .slice (some ⟨g, 0, none⟩) k cp ∧ g < w.heap.size ∧ ∀ i, i < k → w.cell? ⟨g, i, none⟩ = some (.slice (some ⟨r i, 0, none⟩) n (c i)) := by
  obtain ⟨A, cap, hv, -, hr⟩ := h.o.rd
  rw [h.ll] at hv hr
  rcases h.o.2.2 with ⟨_, q⟩ | ⟨g, cap', cur, q, -⟩
  · rw [h.ll] at q
    omega
  · rw [hv] at q
    simp only [Value.slice.injEq] at q
    obtain ⟨rfl, -, rfl⟩ := q
    refine ⟨g, cap, hv, ?_, fun i hi => ?_⟩
    · obtain ⟨b, o, e, h1, -⟩ := hr.at_ hk
      cases e
      exact h1
    · obtain ⟨b, o, e, -, h2⟩ := hr.at_ hi
      cases e
      rw [Nat.zero_add] at h2
      rw [h2, List.getD_eq_getElem?_getD, (h.rr i hi).1]
      rfl
end Tb
/-- The row that append makes. -/
theorem row_of {w : World} {B : Nat} {u : Value} {n : Nat} {g : Nat → Nat → Int} (h : OwnR w B 3 1 u ([] ++ rowsG 1 n g)) (hn : 1 ≤ n) : ∃ gr capr, u = .slice (some ⟨gr, 0, none⟩) n capr ∧ B ≤ gr ∧ n ≤ capr ∧ ArrB w gr 3 n (fun i => g i 0) := by
  rw [List.nil_append] at h
  rcases h.arrB with ⟨_, q⟩ | ⟨gr, capr, h1, h2, h3, h4⟩
  · have := congrArg List.length q
    rw [rowsG_length] at this
    simp at this
    omega
  · rw [rowsG_length] at h1 h3 h4
    exact ⟨gr, capr, h1, h2, h3, h4.congr fun i hi => rowsG_at hi (by omega)⟩
/-- A table when a new block has been made and filled. -/
theorem Tb.far9 {w w8 w9 : World} {B : Nat} {v : Value} {L : List Value} {r c : Nat → Nat} {n k : Nat} {m : Nat → Nat → Int} (h : Tb w B v L r c n k m) {row : Option Nat} (e : Ext w w8) (hg : w8.grownBy w9 row) (hr : row = some w.heap.size) : Tb w9 B v L r c n k m := by
  subst hr
  have e9 : Ext w w9 := e.grown hg (fun q hq => by cases hq; exact Nat.le_refl _)
  exact h.ext e9
theorem has_prev (f : Nat → Int) (k : Nat) : hasB f k (f k) = anyTo (fun j => f k == f j) k := by
  unfold hasB
  cases h : anyTo (fun j => f k == f j) k
  · have := anyTo_false.1 h
    refine anyTo_false.2 fun i hi => ?_
    have := this i hi
    rw [beq_eq_false_iff_ne] at this ⊢
    exact fun e => this e.symm
  · obtain ⟨i, hi, e⟩ := anyTo_true.1 h
    exact anyTo_true.2 ⟨i, hi, by rw [beq_iff_eq] at e ⊢; exact e.symm⟩
theorem cancel75 {w : World} {A Ac : Option Addr} {n cap L capc : Nat} {g : Nat → Nat → Int} {f : Nat → Int} (hr : RdN w A n (fun _ => n) g) (hd : DOk n g) (hk0 : chkD n (fun _ => n) g = 0) (hc : Rd w Ac L 1 (fun k _ => f k)) (hL : L ≤ 1000) (hcap : L ≤ capc) :
    Calls Tryz.prog 75 #[.slice A n cap, .slice Ac L capc] w fun e w' => ∃ u, e = .returned (.tuple #[u, .int .i64 (errC n (fun _ => n) g L f)]) ∧ Ext w w' ∧ (errC n (fun _ => n) g L f ≠ 0 → u = .slice none 0 0) ∧
      (errC n (fun _ => n) g L f = 0 → ∃ A' c', u = .slice A' n c' ∧ RdN w' A' n (fun _ => n) (cutC g (fun k => (f k).toNat) L (lowC g (fun k => (f k).toNat) L L) L)) := by
  have HR := hid hr
  have HC := hid hc
  have HD := hid hd
  have hn7 := hd.hn
  clear hr hc hd
  have hC1 := hid (show errC n (fun _ => n) g L f = if L < 2 then 2 else if anyTo (fun k => !inB (f k) 0 ((n : Int) - 1)) L then 1
  else if anyTo (fun k => anyTo (fun j => f k == f j) k) L then 5 else if anyTo (fun k => g (f k).toNat (f (nxtC L k)).toNat == 0) L then 8 else 0 by unfold errC; rw [hk0, if_neg (by simp)])
  clear hk0
  obtain ⟨er, her⟩ : ∃ er, Hid (errC n (fun _ => n) g L f = er) := ⟨_, hid rfl⟩
  rw [her.out] at hC1 ⊢
  go_enter Tryz.func75, Tryz.ntmps75
  by_cases hL2 : L < 2
  · have h2 : (L : Int) < 2 := by omega
    rw [if_pos hL2] at hC1
    clear hL2
    go_wp2_with fail
    go_ret2
    rw [hC1.out]
    exact ⟨_, rfl, Ext.refl _, fun _ => rfl, fun h => by cases h⟩
  have h2 : ¬ (L : Int) < 2 := by omega
  rw [if_neg hL2] at hC1
  have hL1 : 1 < L := by omega
  clear hL2
  go_upto_region 4 with fail
  go_loopw [6] (fun i W => ∃ k : Nat, k ≤ L ∧ i = .int .i64 (k : Int) ∧ Hid (∀ j, j < k → (!inB (f j) 0 ((n : Int) - 1)) = false) ∧ Hid (Ext w W)) (fun i _ => L - (intOf i).toNat)
  case atStart => exact ⟨0, Nat.zero_le _, rfl, hid fun _ h => absurd h (by omega), hid (Ext.refl _)⟩
  case round =>
    clear h2
    obtain ⟨k, hk, rfl, hp, D⟩ := hrel
    by_cases hlk : k < L
    · obtain ⟨b, o, rfl, hb, hck⟩ := (HC.out.ext D.out).at1 hlk
      have hof := hid (inB_off (f k) 0 ((n : Int) - 1))
      obtain ⟨z, hz⟩ : ∃ z, Hid (f k = z) := ⟨_, hid rfl⟩
      rw [hz.out] at hck hof
      obtain ⟨q1, hq1⟩ : ∃ q, Hid (offB z 0 ((n : Int) - 1) = q) := ⟨_, hid rfl⟩
      rw [hq1.out] at hof
      cases q1
      · go_wp2_with (go_at_call 94; refine (off_any _ _ _ _).mono ?_; rintro e wz ⟨rfl, rfl⟩; rw [hq1.out])
        go_roundw
        case rel => exact ⟨k + 1, by omega, by go_num, anyTo_step hp.out (by rw [hz.out, ← hof.out]), D⟩
        case measure => simp [intOf]; omega
      · go_wp2_with (go_at_call 94; refine (off_any _ _ _ _).mono ?_; rintro e wz ⟨rfl, rfl⟩; rw [hq1.out])
        go_ret2
        have h := hC1.out
        rw [if_pos (anyTo_true.2 ⟨k, hlk, by rw [hz.out, ← hof.out]⟩)] at h
        rw [h]
        exact ⟨_, rfl, D.out, fun _ => rfl, fun h => by cases h⟩
    · have hkL : k = L := by omega
      rw [hkL] at hp
      rw [anyTo_false.2 hp.out, if_neg (by simp)] at hC1
      clear hk hkL
      go_upto_region 9 with fail
      obtain ⟨W0, hW0⟩ : ∃ W : World, Hid (W = wr) := ⟨_, hid rfl⟩
      rw [← hW0.out] at D
      go_loopw [7] (fun i W => ∃ k : Nat, k ≤ L ∧ i = .int .i64 (k : Int) ∧ Hid (∀ j, j < k → anyTo (fun i => f j == f i) j = false) ∧ Hid (Ext w W)) (fun i _ => L - (intOf i).toNat)
      case atStart => exact ⟨0, Nat.zero_le _, rfl, hid fun _ h => absurd h (by omega), hid (by rw [← hW0.out]; exact D.out)⟩
      case round =>
        clear D
        obtain ⟨k, hk, rfl, hp2, D⟩ := hrel
        by_cases hlk : k < L
        · obtain ⟨b, o, rfl, hb, hck⟩ := (HC.out.ext D.out).at1 hlk
          have hpv := hid (has_prev f k)
          obtain ⟨z, hz⟩ : ∃ z, Hid (f k = z) := ⟨_, hid rfl⟩
          rw [hz.out] at hck
          have hkc : k ≤ capc := by omega
          have hkc1 : (k : Int) ≤ (capc : Int) := by omega
          obtain ⟨q2, hq2⟩ : ∃ q, Hid (hasB (fun k => f k) k z = q) := ⟨_, hid rfl⟩
          have hpv := hid (show anyTo (fun j => f k == f j) k = q2 by rw [← hpv.out, ← hq2.out, ← hz.out])
          have C81 := hid (fun (m : Later wr) => has81 (cap := capc) (rd_take ((HC.out.ext D.out).ext m.ok) (show k ≤ L by omega)) (by omega) z)
          rw [hq2.out] at C81
          go_upto_region 11 with fail
          refine wp_region_later (by kernel_rfl) (by kernel_rfl) ?_
          repeat (go_big_quiet_step ((go_at_call 81; exact Calls.later (C81.out _))))
          refine wpQuiet_nil ?_
          rintro w7 ⟨⟨_, he7⟩, rfl⟩
          cases q2
          · go_wp2_with fail
            go_roundw
            case rel => exact ⟨k + 1, by omega, by go_num, anyTo_step hp2.out hpv.out, hid (D.out.trans he7)⟩
            case measure => simp [intOf]; omega
          · go_wp2_with fail
            go_ret2
            have h := hC1.out
            rw [if_pos ((anyTo_true (p := fun k => anyTo (fun j => f k == f j) k)).2 ⟨k, hlk, hpv.out⟩)] at h
            rw [h]
            exact ⟨_, rfl, D.out.trans he7, fun _ => rfl, fun h => by cases h⟩
        · have hkL : k = L := by omega
          rw [hkL] at hp2
          rw [anyTo_false.2 hp2.out, if_neg (by simp)] at hC1
          have hcb := hid (show circB n g f L = !anyTo (fun k => g (f k).toNat (f (nxtC L k)).toNat == 0) L by
            unfold circB
            rw [anyTo_false.2 fun j hj => ?_, decide_eq_true hL1]
            · simp
            · unfold badC
              have h1 := hp.out j hj
              rw [inB_off]
              rw [h1, has_prev, hp2.out j hj]
              rfl)
          clear hk hkL
          obtain ⟨q3, hq3⟩ : ∃ q, Hid (anyTo (fun k => g (f k).toNat (f (nxtC L k)).toNat == 0) L = q) := ⟨_, hid rfl⟩
          rw [hq3.out] at hcb hC1
          cases q3
          case true =>
            go_wp2_with (go_at_call 79; (with_reducible refine (circle79 (HR.out.ext D.out) (by omega) (HC.out.ext D.out) hL hcap).mono ?_); rintro e wz ⟨rfl, he⟩; rw [hcb.out]; have D := hid (D.out.trans he); clear he)
            go_ret2
            rw [if_pos trivial] at hC1
            rw [hC1.out]
            exact ⟨_, rfl, D.out, fun _ => rfl, fun h => by cases h⟩
          case false =>
            rw [if_neg (by simp)] at hC1
            have hin := hid (fun k (hk : k < L) => (show ∃ x : Nat, f k = (x : Int) ∧ x < n from by
              have h := hp.out k hk
              rw [← inB_off] at h
              have := offB_no h
              exact ⟨(f k).toNat, by omega, by omega⟩))
            obtain ⟨c, hcv⟩ : ∃ c : Nat → Nat, Hid ((fun k => (f k).toNat) = c) := ⟨_, hid rfl⟩
            have hfc := hid (fun k (hk : k < L) => (show f k = (c k : Int) ∧ c k < n from by
              obtain ⟨x, h1, h2⟩ := hin.out k hk
              have : c k = (f k).toNat := by rw [← hcv.out]
              omega))
            have HCc := hid (HC.out.congr (g' := fun k _ => (c k : Int)) fun k hk j hj => (hfc.out k hk).1)
            clear hin
            go_upto_region 17 with (go_at_call 79; (with_reducible refine (circle79 (HR.out.ext D.out) (by omega) (HC.out.ext D.out) hL hcap).mono ?_); rintro e wz ⟨rfl, he⟩; rw [hcb.out]; have D := hid (D.out.trans he); clear he)
            clear hcb hp hp2
            obtain ⟨W1, hW1⟩ : ∃ W : World, Hid (W = wz) := ⟨_, hid rfl⟩
            rw [← hW1.out] at D
            go_loopw [8, 9] (fun b i W => ∃ k : Nat, k ≤ L ∧ i = .int .i64 (k : Int) ∧ b = .int .i64 (lowC g c L k) ∧ Hid (Ext w W)) (fun _ i _ => L - (intOf i).toNat)
            case atStart => exact ⟨0, Nat.zero_le _, rfl, rfl, hid (by rw [← hW1.out]; exact D.out)⟩
            case round =>
              clear D
              obtain ⟨k, hk, rfl, rfl, D⟩ := hrel
              by_cases hlk : k < L
              · obtain ⟨q, hq⟩ : ∃ q, Hid (q = nxtC L k) := ⟨_, hid rfl⟩
                have hmod : Int.tmod ((k : Int) + 1) (L : Int) = (q : Int) := by rw [hq.out]; rfl
                have hqL : q < L := by rw [hq.out]; exact Nat.mod_lt _ (by omega)
                obtain ⟨b, o, rfl, hb, hck⟩ := (HCc.out.ext D.out).at1 hlk
                obtain ⟨b2, o2, h2, -, hcq⟩ := (HCc.out.ext D.out).at1 hqL
                cases h2
                have hxn := (hfc.out k hlk).2
                have hyn := (hfc.out q hqL).2
                have hlow := hid (show lowC g c L (k + 1) = min (lowC g c L k) (g (c k) (c q)) by rw [hq.out]; rfl)
                obtain ⟨x, hx⟩ : ∃ x, Hid (c k = x) := ⟨_, hid rfl⟩
                obtain ⟨y, hy⟩ : ∃ y, Hid (c q = y) := ⟨_, hid rfl⟩
                obtain ⟨t, ht⟩ : ∃ t, Hid (lowC g c L k = t) := ⟨_, hid rfl⟩
                rw [hx.out] at hck hxn hlow
                rw [hy.out] at hcq hyn hlow
                rw [ht.out] at hlow ⊢
                obtain ⟨bA, oA, Bx, Cx, rfl, hbA, hrow, hRow⟩ := (HR.out.ext D.out).at_ hxn
                obtain ⟨bx, ox, rfl, hbx, hz⟩ := hRow.at1 hyn
                obtain ⟨z, hzv⟩ : ∃ z, Hid (g x y = z) := ⟨_, hid rfl⟩
                rw [hzv.out] at hz hlow
                have hmin := hid (show (if z < t then z else t) = lowC g c L (k + 1) by rw [hlow.out]; split <;> omega)
                clear hRow hlow
                go_upto_region 19 with fail
                refine wp_region_later (by kernel_rfl) (by kernel_rfl) ?_
                repeat (go_big_quiet_step (fail))
                refine wpQuiet_nil ?_
                rintro w7 ⟨⟨_, he7⟩, rfl⟩
                rw [hmin.out]
                go_wp2_with fail
                go_roundw
                case rel => exact ⟨k + 1, by omega, by go_num, rfl, hid (D.out.trans he7)⟩
                case measure => simp [intOf]; omega
              · have hkL : k = L := by omega
                rw [hkL]
                have hzb := hid (lowC_bd (c := c) (L := L) (by omega) (fun k hk => (hfc.out k hk).2) HD.out.hd L (Nat.le_refl _))
                obtain ⟨z, hz⟩ : ∃ z, Hid (lowC g c L L = z) := ⟨_, hid rfl⟩
                rw [hz.out] at hzb ⊢
                clear hk hkL
                go_upto_region 22 with fail
                obtain ⟨W2, hW2⟩ : ∃ W : World, Hid (W = wr) := ⟨_, hid rfl⟩
                rw [← hW2.out] at D
                go_loopw [10, 11] (fun v i W => ∃ (k : Nat) (LL : List Value) (r cc : Nat → Nat), k ≤ n ∧ i = .int .i64 (k : Int) ∧ Hid (Tb W w.heap.size v LL r cc n k g) ∧ Hid (Ext w W)) (fun _ i _ => n - (intOf i).toNat)
                case atStart => exact ⟨0, [], fun _ => 0, fun _ => 0, by omega, rfl, hid ⟨OwnV.nil, rfl, fun i hi => absurd hi (by omega), fun i hi => absurd hi (by omega), fun i j hi => absurd hi (by omega)⟩, hid (by rw [← hW2.out]; exact D.out)⟩
                case round =>
                  clear D
                  obtain ⟨k, LL, r, cc, hk, rfl, TT, D⟩ := hrel
                  by_cases hlk : k < n
                  · obtain ⟨bA, oA, Bx, Cx, rfl, hbA, hrow, hRow⟩ := (HR.out.ext D.out).at_ hlk
                    have HRow := hid hRow
                    obtain ⟨w8, hw8⟩ : ∃ W : World, Hid (W = wr) := ⟨_, hid rfl⟩
                    rw [← hw8.out] at D TT HRow hbA hrow ⊢
                    have e8 : Ext w8 (w8.alloc (.cells #[] 3)) := (Ext.refl _).alloc _
                    have hrow8 := e8.some_ hrow
                    have hbA8 := Nat.lt_of_lt_of_le hbA e8.size
                    clear hRow hw8
                    have hll := TT.out.ll
                    go_wp2_with (first
                      | (at_builtin; refine wpList_append_rd rfl _ _ 22 rfl el22 rfl (OwnR.empty (B := w8.heap.size) (empty_now (Ext.refl _) rfl) (Nat.le_refl _)) rfl (HRow.out.ext ((Ext.refl _).alloc _)) (by simp; omega) (by simp) ?_; intro v' w9 hown9 hg9; obtain ⟨gr, capr, rfl, hgB, hcr, hAr⟩ := row_of hown9 hn7.1; have HG9 := hid hg9; have HAr := hid hAr; have D9 := hid ((D.out.alloc _).grown hg9 (fun q hq => by cases hq; exact D.out.size)); have T9 := hid (TT.out.far9 e8 hg9 rfl); clear hown9 hg9 hAr)
                      | (at_builtin; refine wpList_append_val rfl _ _ 39 rfl el39g rfl (T9.out.o.ext (Ext.alloc (Ext.refl _) _)) _ 1 1 [.slice (some ⟨gr, 0, none⟩) n capr] rfl rfl (by simp [Value.oneCell']) (by intro j; simp) (by rw [hll]; omega) (by have := D9.out.size; simp; omega) ?_; intro v' w10 hv10 hg10; have HV10 := hid hv10; have HG10 := hid hg10; clear hv10 hg10))
                    have hR9 := ((T9.out.ext ((Ext.refl w9).alloc (.cells #[.slice (some ⟨gr, 0, none⟩) n capr] 22))).app (HAr.out.ext ((Ext.refl w9).alloc _)) (Nat.le_trans D.out.size hgB) (fun i hi => by have := (TT.out.rr i hi).2.lt; omega) HV10.out HG10.out).congr (m' := g) fun i hi j hj => by
                      by_cases e : i = k
                      · subst e; rw [updR_same]
                      · rw [updR_other _ _ e]
                    have HR9 := hid hR9
                    have E10 := hid ((D9.out.alloc (.cells #[.slice (some ⟨gr, 0, none⟩) n capr] 22)).grown HG10.out (fun q hq => T9.out.o.block hq))
                    clear hR9
                    exact ⟨⟨k + 1, _, _, _, by omega, by go_num, HR9, E10⟩, by simp [intOf]; omega⟩
                  · have hkn : k = n := by omega
                    rw [hkn] at TT
                    obtain ⟨gt, cp, rfl, -, -⟩ := TT.out.at_ (show 0 < n by omega)
                    clear hk hkn
                    go_upto_region 26 with fail
                    obtain ⟨W3, hW3⟩ : ∃ W : World, Hid (W = wr) := ⟨_, hid rfl⟩
                    rw [← hW3.out] at D TT
                    go_loopw [12] (fun i W => ∃ k : Nat, k ≤ L ∧ i = .int .i64 (k : Int) ∧ Hid (Tb W w.heap.size (.slice (some ⟨gt, 0, none⟩) n cp) LL r cc n n (cutC g c L z k)) ∧ Hid (Ext w W)) (fun i _ => L - (intOf i).toNat)
                    case atStart => exact ⟨0, Nat.zero_le _, rfl, hid (by rw [← hW3.out]; exact TT.out), hid (by rw [← hW3.out]; exact D.out)⟩
                    case round =>
                      clear TT D
                      obtain ⟨k, hk, rfl, TT, D⟩ := hrel
                      by_cases hlk : k < L
                      · obtain ⟨q, hq⟩ : ∃ q, Hid (q = nxtC L k) := ⟨_, hid rfl⟩
                        have hmod : Int.tmod ((k : Int) + 1) (L : Int) = (q : Int) := by rw [hq.out]; rfl
                        have hqL : q < L := by rw [hq.out]; exact Nat.mod_lt _ (by omega)
                        obtain ⟨b, o, rfl, hb, hck⟩ := (HCc.out.ext D.out).at1 hlk
                        obtain ⟨b2, o2, h2, -, hcq⟩ := (HCc.out.ext D.out).at1 hqL
                        cases h2
                        have hxn := (hfc.out k hlk).2
                        have hyn := (hfc.out q hqL).2
                        obtain ⟨x, hx⟩ : ∃ x, Hid (c k = x) := ⟨_, hid rfl⟩
                        obtain ⟨y, hy⟩ : ∃ y, Hid (c q = y) := ⟨_, hid rfl⟩
                        rw [hx.out] at hck hxn
                        rw [hy.out] at hcq hyn
                        obtain ⟨gt', cp', et, gl, hcells⟩ := TT.out.at_ (show 0 < n by omega)
                        cases et
                        have kx := hcells x hxn
                        have hrow := (TT.out.rr x hxn).2
                        have kr := hrow.cell hyn
                        have krl := hrow.lt
                        have hrB := TT.out.lo x hxn
                        obtain ⟨v, hv⟩ : ∃ v, Hid (cutC g c L z k x y = v) := ⟨_, hid rfl⟩
                        have hvb : -1000000000 ≤ v ∧ v ≤ 1000000 := by
                          have := cutC_bd (c := c) (L := L) hzb.out HD.out.hd k x y hxn hyn
                          rw [hv.out] at this
                          omega
                        have hzB := hzb.out
                        rw [hv.out] at kr
                        obtain ⟨rx, hrx⟩ : ∃ q, Hid (r x = q) := ⟨_, hid rfl⟩
                        rw [hrx.out] at kx kr krl hrB
                        clear hrow hcells
                        go_upto_region 28 with fail
                        refine wp_region_tail 34 (by kernel_rfl) (by kernel_rfl) ?_
                        simp only [List.take_succ_cons, List.take_zero, List.drop_succ_cons, List.drop_zero]
                        repeat (go_big_quiet_step (fail))
                        refine wpQuiet_nil ?_
                        rintro w6 ⟨⟨_, he6⟩, rfl⟩
                        have T6 := hid (TT.out.ext he6)
                        have hrow := (T6.out.rr x hxn).2
                        rw [hrx.out] at hrow
                        have kr := hrow.cell hyn
                        have krl := hrow.lt
                        have krf := hrow.frozen y
                        rw [hv.out] at kr
                        have D6 := hid (D.out.trans he6)
                        clear hrow
                        go_wp2_with fail
                        go_roundw
                        case rel =>
                          refine ⟨k + 1, by omega, by go_num, hid ?_, hid (D6.out.setCell _ hrB)⟩
                          have e : cutC g c L z (k + 1) = upd2 (cutC g c L z k) x y (v - z) := by rw [← hv.out, ← hx.out, ← hy.out, hq.out]; rfl
                          rw [e, ← hrx.out]
                          exact T6.out.put hxn (v - z)
                        case measure => simp [intOf]; omega
                      · have hkL : k = L := by omega
                        rw [hkL] at TT
                        have hC0 := hid (show er = 0 from hC1.out)
                        go_wp2_with fail
                        go_ret2
                        rw [hC0.out]
                        refine ⟨_, rfl, D.out, fun h => absurd rfl h, fun _ => ?_⟩
                        obtain ⟨A', c', hv, hN⟩ := TT.out.rdN
                        cases hv
                        refine ⟨_, _, rfl, ?_⟩
                        rw [hcv.out, hz.out]
                        exact hN
end Go.Proofs.YtbceepjjdfpfmaaGreat
namespace Go.Proofs.YtbceepjjdfpfmaaGreat
open Go.RowKit HandSpec
set_option maxHeartbeats 2000000
set_option maxRecDepth 100000
theorem cancel77e {w : World} {A Ac : Option Addr} {n cap L capc : Nat} {m : Nat → Nat} {g : Nat → Nat → Int} {f : Nat → Int} (hr : RdN w A n m g) (hn : n ≤ 1000) (hm : ∀ k, k < n → m k ≤ 1000)
    (hc : Rd w Ac L 1 (fun k _ => f k)) (hL : L ≤ 1000) (hcap : L ≤ capc) :
    Calls Tryz.prog 77 #[.slice A n cap, .slice Ac L capc] w fun e w' => ∃ u, e = .returned (.tuple #[u, .int .i64 (errC n m g L f)]) ∧ Ext w w' ∧ (errC n m g L f ≠ 0 → u = .slice none 0 0) ∧
      (errC n m g L f = 0 → MtV w' w.heap.size u n (cutC g (fun k => (f k).toNat) L (lowC g (fun k => (f k).toNat) L L) L)) := by
  have hmf : ∀ (fn : Fn) (first cap : Array Value) (w : World), (Instr.makeFunc fn first cap).run Tryz.prog w = .ok (.func fn first cap) w := fun _ _ _ _ => rfl
  have HR := hid hr
  have HM := hid hm
  have HC := hid hc
  clear hr hm hc
  obtain ⟨s, hs⟩ : ∃ s, Hid (chkD n m g = s) := ⟨_, hid rfl⟩
  have B1 := hid (Blk.new w 48 #[.slice A n cap])
  have E1 : Ext w (w.alloc (.cells #[.slice A n cap] 48)) := (Ext.refl _).alloc _
  have E1 := hid E1
  rcases (Decidable.em (s = 0)).symm with h0 | h0
  · have hne : (s != 0) = true := by simpa using h0
    have he : errC n m g L f = s := by unfold errC; rw [hs.out, if_pos h0]
    rw [he]
    have H0 := hid h0
    clear h0 he
    go_enter Tryz.func77, Tryz.ntmps77
    go_wp2_with (go_at_call 33; refine (checkDebts33 (HR.out.ext E1.out) hn HM.out).mono ?_; rintro e w1 ⟨rfl, he1⟩; rw [hs.out])
    go_ret2
    exact ⟨_, rfl, E1.out.trans he1, fun _ => rfl, fun h => absurd h H0.out⟩
  subst h0
  obtain ⟨hd, hsq⟩ := chkD_zero hs.out
  have HD := hid hd
  have HR2 := hid (HR.out.congr (m' := fun _ => n) (g' := g) fun k hk => ⟨hsq k hk, fun _ _ => rfl⟩)
  clear hd hsq
  have hC1 := hid (show errC n m g L f = if L < 2 then 2 else if anyTo (fun k => !inB (f k) 0 ((n : Int) - 1)) L then 1
  else if anyTo (fun k => anyTo (fun j => f k == f j) k) L then 5 else if anyTo (fun k => g (f k).toNat (f (nxtC L k)).toNat == 0) L then 8 else 0 by unfold errC; rw [hs.out, if_neg (by simp)])
  obtain ⟨er, her⟩ : ∃ er, Hid (errC n m g L f = er) := ⟨_, hid rfl⟩
  rw [her.out] at hC1 ⊢
  go_enter Tryz.func77, Tryz.ntmps77
  by_cases hL2 : L < 2
  · have h2 : (L : Int) < 2 := by omega
    go_wp2_with (go_at_call 33; refine (checkDebts33 (HR.out.ext E1.out) hn HM.out).mono ?_; rintro e w1 ⟨rfl, he1⟩; rw [hs.out])
    go_ret2
    rw [if_pos hL2] at hC1
    rw [hC1.out]
    exact ⟨_, rfl, E1.out.trans he1, fun _ => rfl, fun h => by cases h⟩
  have h2 : ¬ (L : Int) < 2 := by omega
  rw [if_neg hL2] at hC1
  obtain ⟨q1, hq1⟩ : ∃ q, Hid (anyTo (fun k => !inB (f k) 0 ((n : Int) - 1)) L = q) := ⟨_, hid rfl⟩
  rw [hq1.out] at hC1
  rcases Bool.eq_false_or_eq_true q1 with rfl | rfl
  · go_wp2_with (first | (go_at_call 33; refine (checkDebts33 (HR.out.ext E1.out) hn HM.out).mono ?_; rintro e w1 ⟨rfl, he1⟩; rw [hs.out]; have k1 := (B1.out.ext he1).cell; have k1l := (B1.out.ext he1).lt; have E2 := hid he1; clear he1) | (go_at_call 112; refine (every112 (HC.out.ext (E1.out.trans E2.out)) hL (asks153 hn (B1.out.ext E2.out))).mono ?_; rintro e w2 ⟨rfl, he2⟩; rw [hq1.out]))
    go_ret2
    rw [if_pos trivial] at hC1
    rw [hC1.out]
    exact ⟨_, rfl, E1.out.trans (E2.out.trans he2), fun _ => rfl, fun h => by cases h⟩
  rw [if_neg (by simp)] at hC1
  go_upto_region 8 with (first | (go_at_call 33; refine (checkDebts33 (HR.out.ext E1.out) hn HM.out).mono ?_; rintro e w1 ⟨rfl, he1⟩; rw [hs.out]; have k1 := (B1.out.ext he1).cell; have k1l := (B1.out.ext he1).lt; have E2 := hid he1; clear he1) | (go_at_call 112; refine (every112 (HC.out.ext (E1.out.trans E2.out)) hL (asks153 hn (B1.out.ext E2.out))).mono ?_; rintro e w2 ⟨rfl, he2⟩; rw [hq1.out]))
  have k2 := (B1.out.ext (E2.out.trans he2)).cell
  have k2l := (B1.out.ext (E2.out.trans he2)).lt
  have E3 := hid (E1.out.trans (E2.out.trans he2))
  have B3 := hid (B1.out.ext (E2.out.trans he2))
  clear k1 k1l E2 he2
  have hin := hid (anyTo_false.1 hq1.out)
  obtain ⟨b, o, rfl, -, -⟩ := HC.out.at1 (show 0 < L by omega)
  go_upto_region 9 with fail
  obtain ⟨W0, rfl⟩ : ∃ W0 : World, W0 = w2 := ⟨_, rfl⟩
  go_loopw [25] (fun i wr => ∃ k : Nat, k ≤ L ∧ i = .int .i64 (k : Int) ∧ Hid (∀ j, j < k → anyTo (fun i => f j == f i) j = false) ∧ Ext W0 wr) (fun i _ => L - (intOf i).toNat)
  case atStart => exact ⟨0, Nat.zero_le _, rfl, hid fun _ h => absurd h (by omega), Ext.refl _⟩
  case round =>
    obtain ⟨k, hk, rfl, hp, he⟩ := hrel
    by_cases hlt : k < L
    · obtain ⟨b', o', h', -, hck⟩ := (HC.out.ext (E3.out.trans he)).at1 hlt
      cases h'
      have hkc : k ≤ capc := by omega
      have hkc1 : (k : Int) ≤ (capc : Int) := by omega
      have hk1 : k ≤ 1000 := by omega
      obtain ⟨q2, hq2⟩ : ∃ q, Hid (anyTo (fun i => f k == f i) k = q) := ⟨_, hid rfl⟩
      have hRk := hid (rd_take (HC.out.ext (E3.out.trans he)) hk)
      rcases Bool.eq_false_or_eq_true q2 with rfl | rfl
      · go_wp2_with (go_at_call 47; refine (contains47 hRk.out hk1 (f k)).mono ?_; rintro e w3 ⟨rfl, he3⟩; rw [hq2.out])
        go_ret2
        rw [if_pos ((anyTo_true (p := fun k => anyTo (fun j => f k == f j) k)).2 ⟨k, hlt, hq2.out⟩)] at hC1
        rw [hC1.out]
        exact ⟨_, rfl, E3.out.trans (he.trans he3), fun _ => rfl, fun h => by cases h⟩
      · go_wp2_with (go_at_call 47; refine (contains47 hRk.out hk1 (f k)).mono ?_; rintro e w3 ⟨rfl, he3⟩; rw [hq2.out])
        go_roundw
        case rel => exact ⟨k+1, by omega, by go_num, anyTo_step hp.out hq2.out, he.trans he3⟩
        case measure => simp [intOf]; omega
    · have : k = L := by omega
      subst this
      obtain ⟨L, rfl⟩ : ∃ L, L = k := ⟨_, rfl⟩
      rw [if_neg (by rw [anyTo_false.2 hp.out]; simp)] at hC1
      have HE := hid he
      clear hp he
      go_upto_region 15 with fail
      obtain ⟨W1, rfl⟩ : ∃ W1 : World, W1 = wr := ⟨_, rfl⟩
      go_loopw [38] (fun i ws => ∃ k : Nat, k ≤ L ∧ i = .int .i64 (k : Int) ∧ Hid (∀ j, j < k → (g (f j).toNat (f (nxtC L j)).toNat == 0) = false) ∧ Ext W0 ws) (fun i _ => L - (intOf i).toNat)
      case atStart => exact ⟨0, Nat.zero_le _, rfl, hid fun _ h => absurd h (by omega), HE.out⟩
      case round =>
        obtain ⟨k, hk, rfl, hp, he⟩ := hrel
        by_cases hlt : k < L
        · obtain ⟨q, hq⟩ : ∃ q, Hid (q = nxtC L k) := ⟨_, hid rfl⟩
          have hmod : Int.tmod ((k : Int) + 1) (L : Int) = (q : Int) := by rw [hq.out]; rfl
          have hqL : q < L := by rw [hq.out]; exact Nat.mod_lt _ (by omega)
          have k2 := (B3.out.ext he).cell
          have k2l := (B3.out.ext he).lt
          obtain ⟨b', o', h', -, hck⟩ := (HC.out.ext (E3.out.trans he)).at1 hlt
          cases h'
          obtain ⟨b', o', h', -, hcq⟩ := (HC.out.ext (E3.out.trans he)).at1 hqL
          cases h'
          have i1 := hin.out k hlt
          have i2 := hin.out q hqL
          simp [inB] at i1 i2
          obtain ⟨x, hx⟩ : ∃ x, Hid (x = (f k).toNat) := ⟨_, hid rfl⟩
          obtain ⟨y, hy⟩ : ∃ y, Hid (y = (f q).toNat) := ⟨_, hid rfl⟩
          have hfx : f k = (x : Int) := by have := hx.out; omega
          have hfy : f q = (y : Int) := by have := hy.out; omega
          have hxn : x < n := by omega
          have hyn : y < n := by omega
          rw [hfx] at hck
          rw [hfy] at hcq
          clear i1 i2 hfx hfy
          obtain ⟨bA, oA, Bx, Cx, rfl, hbA, hrow, hRow⟩ := (HR2.out.ext (E3.out.trans he)).at_ hxn
          obtain ⟨bx, ox, rfl, hbx, hz⟩ := hRow.at1 hyn
          clear hRow
          have hzz := hid (show g (f k).toNat (f (nxtC L k)).toNat = g x y by rw [hx.out, hy.out, hq.out])
          have E0 := hid he
          go_upto_region 17 with fail
          refine wp_region_later (by kernel_rfl) (by kernel_rfl) ?_
          repeat (go_big_quiet_step (fail))
          refine wpQuiet_nil ?_
          rintro w6 ⟨⟨_, he6⟩, rfl⟩
          clear k2 k2l hck hcq hrow hz
          cases hb : (g x y == 0)
          · go_wp2_with fail
            go_roundw
            case rel => exact ⟨k + 1, by omega, by go_num, anyTo_step hp.out (by rw [hzz.out]; exact hb), E0.out.trans he6⟩
            case measure => simp [intOf]; omega
          · go_wp2_with fail
            go_ret2
            rw [if_pos ((anyTo_true (p := fun k => g (f k).toNat (f (nxtC L k)).toNat == 0)).2 ⟨k, hlt, by rw [hzz.out]; exact hb⟩)] at hC1
            rw [hC1.out]
            exact ⟨_, rfl, E3.out.trans (E0.out.trans he6), fun _ => rfl, fun h => by cases h⟩
        · have : k = L := by omega
          subst this
          obtain ⟨L, rfl⟩ : ∃ L, L = k := ⟨_, rfl⟩
          rw [if_neg (by rw [anyTo_false.2 hp.out]; simp)] at hC1
          have k2 := (B3.out.ext he).cell
          have k2l := (B3.out.ext he).lt
          have hcn : ∀ k, k < L → ((f k).toNat : Int) = f k ∧ (f k).toNat < n := fun k hk => by
            have := hin.out k hk
            simp [inB] at this
            omega
          have E4 := hid (E3.out.trans he)
          have h154 := cancel154 (cap := cap) (capc := capc) (HR2.out.ext E4.out) HD.out (c := fun k => (f k).toNat) ((HC.out.ext E4.out).congr fun k hk _ _ => (hcn k hk).1.symm) ⟨by omega, hL⟩ fun k hk => (hcn k hk).2
          have H154 := hid h154
          clear h154 hcn he hp
          go_wp2_with (go_at_call 154; refine H154.out.mono ?_; rintro e w7 ⟨u, rfl, he7, hm⟩; have HM7 := hid hm; clear hm)
          go_ret2
          rw [hC1.out]
          exact ⟨_, rfl, E4.out.trans he7, fun h => absurd rfl h, fun _ => by obtain ⟨g1, r, c, cp, hu, hM⟩ := HM7.out; exact ⟨g1, r, c, cp, hu, hM.base E4.out.size⟩⟩
theorem net32e {w : World} {A : Option Addr} {n cap : Nat} {m : Nat → Nat} {g : Nat → Nat → Int} (hr : RdN w A n m g) (hn : n ≤ 1000) (hm : ∀ k, k < n → m k ≤ 1000) :
    Calls Tryz.prog 32 #[.slice A n cap] w (fun e w' => ∃ u, e = .returned (.tuple #[u, .int .i64 (chkD n m g)]) ∧ Ext w w' ∧ (chkD n m g ≠ 0 → u = .slice none 0 0) ∧ (chkD n m g = 0 → ∃ G, u = .slice (some ⟨G, 0, none⟩) n n ∧ w.heap.size ≤ G ∧ ArrB w' G 3 n (netTo g n n))) := by
  have HR := hid hr
  have HM := hid hm
  clear hr hm
  obtain ⟨s, hs⟩ : ∃ s, Hid (chkD n m g = s) := ⟨_, hid rfl⟩
  rw [hs.out]
  by_cases h0 : s = 0
  · subst h0
    obtain ⟨hd, hsq⟩ := chkD_zero hs.out
    have hR := HR.out.congr (m' := fun _ => n) (g' := g) fun k hk => ⟨hsq k hk, fun _ _ => rfl⟩
    have HR2 := hid hR
    have HD := hid hd
    clear hR hd hsq
    go_enter Tryz.func32, Tryz.ntmps32
    go_wp2_with (first | (go_at_call 33; refine (checkDebts33 HR.out hn HM.out).mono ?_; rintro e w1 ⟨rfl, he1⟩; rw [hs.out]; have E1 := hid he1; clear he1) | (go_at_call 108; refine (net108 (HR2.out.ext E1.out) HD.out).mono ?_; rintro e w2 ⟨G, rfl, he2, hG, hA⟩; have HA := hid hA; clear hA))
    go_ret2
    exact ⟨_, rfl, E1.out.trans he2, fun h => absurd rfl h, fun _ => ⟨G, rfl, by have := E1.out.size; omega, HA.out⟩⟩
  · have hne : (s != 0) = true := by simpa using h0
    go_enter Tryz.func32, Tryz.ntmps32
    go_wp2_with (go_at_call 33; refine (checkDebts33 HR.out hn HM.out).mono ?_; rintro e w1 ⟨rfl, he1⟩; rw [hs.out])
    go_ret2
    exact ⟨_, rfl, he1, fun _ => rfl, fun h => absurd h h0⟩
theorem heap_cells9 (b : Nat) {b' : Nat} (h : b' ≠ b) : ∀ (vs : List Value) (o : Nat) (w : World), (w.setCells b o vs).heap[b']? = w.heap[b']?
  | [], _, _ => rfl
  | v :: r, o, w => by
    rw [World.setCells, heap_cells9 b h r]
    exact Below.heap_setCell w ⟨b, o, none⟩ v b' h
theorem wpList_clear_ch {P : Program} {w : World} {ops : Array Oper} {rest : List Oper} {o : Oper} {a : Act} {Q : Exit → Act → World → Prop} (hgd : o.guard = none) (x : Operand) (T : TypeId)
    (ho : o.op = .call { callee := .builtin .clear, args := #[x], argTypes := #[T] }) {e : TypeId} {c bytes : Nat} (hE : ElemOk P T e c bytes) {z : Value} (hz : ∀ w, (zeroValue e).run P w = .ok z w) (hzc : z.cells = Array.replicate c (.int .i64 0))
    {g N s n cap : Nat} {h : Nat → Int} (hx : a.eval x = .slice (some ⟨g, s, none⟩) n cap) (ha : Arr w g N h) (hn : s + n * c ≤ N)
    (hk : ∀ w', Arr w' g N (fun i => if s ≤ i ∧ i < s + n * c then 0 else h i) → (∀ w0, Ext w0 w → w0.heap.size ≤ g → Ext w0 w') → Ch (· = g) w w' → wpList P ops Q rest (a.put o.dst (.tuple #[])) w') :
    wpList P ops Q (o :: rest) a w := by
  refine wpList_plain hgd fun K hK => ?_
  have fin : ∀ w', (Builtin.clear_ #[T] o.type #[.slice (some ⟨g, s, none⟩) n cap]).run P w = .ok (.tuple #[]) w' → K (a.put o.dst (.tuple #[])) w' → Oper.wp P o a w K Q := by
    intro w' hrun hw
    unfold Oper.wp
    simp [execOp, ho, resolve, invoke, builtin, hx, hrun, Result.andThen]
    exact hw
  rcases Nat.eq_zero_or_pos n with h0 | h0
  · subst h0
    refine fin w (by simp [Builtin.clear_, run_underlying hE.u]) (hK _ _ (hk w (ha.congr fun i _ => by rw [if_neg (by omega)]) (fun _ h _ => h) (Ch.refl _ _)))
  · obtain ⟨m, rfl⟩ : ∃ m, n = m + 1 := ⟨n - 1, by omega⟩
    have hlen : (Builtin.zeroCells z.cells (m + 1)).toList.length = (m + 1) * c := by simp [Builtin.zeroCells, hzc]
    have hall : ∀ v ∈ (Builtin.zeroCells z.cells (m + 1)).toList, v = .int .i64 0 := by
      intro v hv
      simp [Builtin.zeroCells, hzc] at hv
      obtain ⟨i, hi, rfl⟩ := hv
      have h0c : i % c < c := Nat.mod_lt _ hE.c0
      simp [h0c]
    have hst := run_storeCells_cells (P := P) g s (Builtin.zeroCells z.cells (m + 1)).toList 0 w (by intro j hj; rw [ha.cell (by omega)]; rfl) (by intro j hj; exact ha.frozen (by omega)) (by intro v hv; rw [hall v hv]; rfl)
    simp only [Nat.add_zero] at hst
    refine fin (w.setCells g s (Builtin.zeroCells z.cells (m + 1)).toList) (by simp [Builtin.clear_, run_underlying hE.u, hz, hst]) (hK _ _ (hk _ ⟨?_, fun i hi => ⟨?_, ?_⟩⟩ (fun w0 h0 hg => ?_) ⟨Nat.le_of_eq (size_cells g _ _ _).symm, fun b _ hb => heap_cells9 g hb _ _ _⟩))
    · rw [size_cells]; exact ha.1
    · by_cases hin : s ≤ i ∧ i < s + (m + 1) * c
      · show _ = some (Value.int .i64 (if _ then _ else _))
        rw [if_pos hin]
        have := World.cell?_setCells_in g (Builtin.zeroCells z.cells (m + 1)).toList s w (fun j hj => by rw [ha.cell (by omega)]; rfl) (i - s) (by omega)
        rw [show s + (i - s) = i by omega] at this
        rw [this, hall _ (List.getElem_mem _)]
      · show _ = some (Value.int .i64 (if _ then _ else _))
        rw [if_neg hin, World.cell?_setCells_out _ _ _ _ _ (fun _ _ => by simp only; omega)]
        exact ha.cell hi
    · rw [World.frozen?_setCells]; exact ha.frozen hi
    · exact below_setCells hg _ _ _ h0
end Go.Proofs.YtbceepjjdfpfmaaGreat
