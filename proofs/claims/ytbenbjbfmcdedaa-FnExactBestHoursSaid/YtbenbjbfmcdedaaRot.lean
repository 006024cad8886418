/-
  The contract of slices.swapRangeCmpFunc on a row of places; the plain law of rotating by swaps. Conditions: the row is the call's own, the two ranges lie apart.
-/
import Derived.Test.YtbenbjbfmcdedaaIns
namespace Go.Proofs.Ytbenbjbfmcdedaa
open Go.RowKit

/-- the ranges of q cells from a and from b on, changed for each other -/
def swapR (zs : List Int) (a b : Nat) : Nat → List Int
  | 0 => zs
  | k + 1 => swp (swapR zs a b k) (a + k) (b + k)
theorem swapR_len (zs : List Int) (a b : Nat) : ∀ q, (swapR zs a b q).length = zs.length
  | 0 => rfl
  | q + 1 => by rw [swapR, swp_len, swapR_len zs a b q]
theorem swapR_perm {zs : List Int} {a b : Nat} : ∀ q, a + q ≤ b → b + q ≤ zs.length → (swapR zs a b q).Perm zs
  | 0, _, _ => .refl _
  | q + 1, h1, h2 => (swp_perm (by rw [swapR_len]; omega) (by rw [swapR_len]; omega)).trans (swapR_perm q (by omega) (by omega))
theorem swapR_nth {zs : List Int} {a b : Nat} : ∀ q, a + q ≤ b → b + q ≤ zs.length → ∀ p, nth (swapR zs a b q) p = if a ≤ p ∧ p < a + q then nth zs (p + (b - a)) else if b ≤ p ∧ p < b + q then nth zs (p - (b - a)) else nth zs p
  | 0, _, _, p => by rw [swapR, if_neg (by omega), if_neg (by omega)]
  | q + 1, h1, h2, p => by
    rw [swapR, swp_nth (by rw [swapR_len]; omega) (by rw [swapR_len]; omega)]
    have ih := swapR_nth (zs := zs) (a := a) (b := b) q (by omega) (by omega)
    rw [ih (a + q), ih (b + q), ih p]
    by_cases e1 : b + q = p
    · subst e1
      rw [if_pos rfl, if_neg (by omega), if_neg (by omega), if_neg (by omega), if_pos (by omega)]
      congr 1; omega
    · rw [if_neg e1]
      by_cases e2 : a + q = p
      · subst e2
        rw [if_pos rfl, if_neg (by omega), if_neg (by omega), if_pos (by omega)]
        congr 1; omega
      · rw [if_neg e2]
        by_cases c1 : a ≤ p ∧ p < a + q
        · rw [if_pos c1, if_pos (by omega)]
        · rw [if_neg c1, if_neg (show ¬ (a ≤ p ∧ p < a + (q + 1)) by omega)]
          by_cases c2 : b ≤ p ∧ p < b + q
          · rw [if_pos c2, if_pos (by omega)]
          · rw [if_neg c2, if_neg (by omega)]
set_option maxRecDepth 100000 in
set_option maxHeartbeats 3200000 in
theorem swapRange_c (base r n c a b q : Nat) (zs : List Int) (fv : Value) (w : World) (hO : Own w base 3 1 (some ⟨r, 0, none⟩) n c (ints zs)) (hn : n ≤ 1000) (h1 : a + q ≤ b) (h2 : b + q ≤ n) :
    Calls Try.prog 77 #[.slice (some ⟨r, 0, none⟩) n c, .int .i64 a, .int .i64 b, .int .i64 q, fv] w fun e w' => e = .returned (.tuple #[]) ∧ Own w' base 3 1 (some ⟨r, 0, none⟩) n c (ints (swapR zs a b q)) ∧ w.grownBy w' (some r) := by
  have hl : zs.length = n := by have := hO.len; rw [ints_len] at this; omega
  have mixed : Try.prog.follows .mixedOrders = true := by kernel_rfl
  have HO0 := Lib.hid hO
  clear hO
  go_enter Try.func77, Try.ntmps77
  go_wp2_with fail
  go_loopw [10] (fun v wr => ∃ k : Nat, k ≤ q ∧ v = .int .i64 (k : Int) ∧ Own wr base 3 1 (some ⟨r, 0, none⟩) n c (ints (swapR zs a b k)) ∧ w.grownBy wr (some r)) (fun v _ => q - (intOf v).toNat)
  case atStart => exact ⟨0, Nat.zero_le _, rfl, HO0.out, World.grownBy.refl _ _⟩
  case round =>
    clear HO0
    obtain ⟨k, hk, rfl, ho, hg⟩ := hrel
    by_cases hlt : k < q
    · have dk : decide (k < q) = true := decide_eq_true hlt
      obtain ⟨ys, hys⟩ : ∃ ys, ys = swapR zs a b k := ⟨_, rfl⟩
      have hyl : ys.length = n := by rw [hys, swapR_len]; exact hl
      have HS := Lib.hid (show swapR zs a b (k + 1) = swp ys (a + k) (b + k) from by rw [hys]; rfl)
      rw [← hys] at ho
      clear hys
      obtain ⟨i, hi⟩ : ∃ i, i = a + k := ⟨_, rfl⟩
      obtain ⟨j, hj⟩ : ∃ j, j = b + k := ⟨_, rfl⟩
      rw [← hi, ← hj] at HS
      have c0 := World.ownsRow.cellAt ho i (by omega)
      have c1 := World.ownsRow.cellAt ho j (by omega)
      rw [ints_get ys i (by omega)] at c0
      rw [ints_get ys j (by omega)] at c1
      obtain ⟨x, hx⟩ : ∃ x, x = nth ys i := ⟨_, rfl⟩
      obtain ⟨y, hy⟩ : ∃ y, y = nth ys j := ⟨_, rfl⟩
      rw [← hx] at c0
      rw [← hy] at c1
      have f2 := World.ownsRow.frozenAt ho i
      have f3 := World.ownsRow.frozenAt ho j
      have O3 := World.ownsRow.stored ho i (.int .i64 y)
      have c4 := World.ownsRow.cellAt O3.1 j (by omega)
      rw [List.getElem?_set_ne (by omega), ints_get ys j (by omega), ← hy] at c4
      have S2 := own_swp (i := i) (j := j) ho
      rw [← hx, ← hy] at S2
      have HS2 := Lib.hid S2
      have GS := Lib.hid (grown_ext (grownBy_set (j := j) (u := .int .i64 x) (grownBy_set (j := i) (u := .int .i64 y) hg)) (Ext.drew (Ext.refl _)))
      have wi : IntKind.i64.wrap ((a : Int) + (k : Int)) = (i : Int) := (IntWalk.i64_in _ (by omega)).trans (by omega)
      have wj : IntKind.i64.wrap ((b : Int) + (k : Int)) = (j : Int) := (IntWalk.i64_in _ (by omega)).trans (by omega)
      have i0 : (0 : Int) ≤ (i : Int) := by omega
      have i1 : (i : Int) < (n : Int) := by omega
      have j0 : (0 : Int) ≤ (j : Int) := by omega
      have j1 : (j : Int) < (n : Int) := by omega
      clear ho O3 S2 hx hy hi hj hg
      go_wp2_with fail
      go_big_region_o
      generalize ((wr.setCell ⟨r, i, none⟩ (.int .i64 y)).setCell ⟨r, j, none⟩ (.int .i64 x)).drew = w3 at *
      clear c0 c1 c4 f2 f3 wi wj
      go_wp2_with fail
      go_roundw
      case rel => exact ⟨k + 1, by omega, by go_num, by rw [HS.out]; exact HS2.out, GS.out⟩
      case measure => simp [intOf]; omega
    · obtain rfl : k = q := by omega
      have dk : decide (k < k) = false := decide_eq_false (by omega)
      have HO := Lib.hid ho
      have HG := Lib.hid hg
      clear ho hg
      go_wp2_with fail
      refine bodyPost_end (v := .tuple #[]) (by simp [results, Try.results77, go_sem]) rfl ?_
      exact ⟨rfl, HO.out, HG.out⟩
/-- what rotating [a, m) behind [m, b) leaves at p -/
def rotN (zs : List Int) (a m b p : Nat) : Int := if a ≤ p ∧ p < a + (b - m) then nth zs (p + (m - a)) else if a + (b - m) ≤ p ∧ p < b then nth zs (p - (b - m)) else nth zs p
theorem nth_arg {zs : List Int} {p q : Nat} (h : p = q) : nth zs p = nth zs q := by rw [h]
/-- the left part is longer: its first j cells change with the right part's -/
theorem rot_left {zs : List Int} {m i j : Nat} (hi : i ≤ m) (hj : j < i) (hb : m + j ≤ zs.length) (p : Nat) : rotN (swapR zs (m - i) m j) (m - (i - j)) m (m + j) p = rotN zs (m - i) m (m + j) p := by
  have at_ := swapR_nth (zs := zs) (a := m - i) (b := m) j (by omega) hb
  unfold rotN
  rw [at_ (p + (m - (m - (i - j)))), at_ (p - (m + j - m)), at_ p]
  split <;> split <;> (repeat' split) <;> first | omega | (exact nth_arg (by omega)) | rfl
theorem rot_right {zs : List Int} {m i j : Nat} (hi : i ≤ m) (hj : i < j) (hb : m + j ≤ zs.length) (p : Nat) : rotN (swapR zs (m - i) (m + j - i) i) (m - i) m (m + (j - i)) p = rotN zs (m - i) m (m + j) p := by
  have at_ := swapR_nth (zs := zs) (a := m - i) (b := m + j - i) i (by omega) (by omega)
  unfold rotN
  rw [at_ (p + (m - (m - i))), at_ (p - (m + (j - i) - m)), at_ p]
  split <;> split <;> (repeat' split) <;> first | omega | (exact nth_arg (by omega)) | rfl
theorem rot_last {zs : List Int} {m i : Nat} (hi : i ≤ m) (hb : m + i ≤ zs.length) (p : Nat) : nth (swapR zs (m - i) m i) p = rotN zs (m - i) m (m + i) p := by
  rw [swapR_nth (zs := zs) (a := m - i) (b := m) i (by omega) hb]
  unfold rotN
  repeat' split
  all_goals first | omega | (exact nth_arg (by omega)) | rfl
set_option maxRecDepth 100000 in
set_option maxHeartbeats 3200000 in
theorem rotate_c (base r n c a m b : Nat) (zs : List Int) (fv : Value) (w : World) (hO : Own w base 3 1 (some ⟨r, 0, none⟩) n c (ints zs)) (hn : n ≤ 1000) (h1 : a < m) (h2 : m < b) (h3 : b ≤ n) :
    Calls Try.prog 75 #[.slice (some ⟨r, 0, none⟩) n c, .int .i64 a, .int .i64 m, .int .i64 b, fv] w fun e w' => e = .returned (.tuple #[]) ∧ ∃ ds, ds.Perm zs ∧ (∀ p, nth ds p = rotN zs a m b p) ∧ Own w' base 3 1 (some ⟨r, 0, none⟩) n c (ints ds) ∧ w.grownBy w' (some r) := by
  have hl : zs.length = n := by have := hO.len; rw [ints_len] at this; omega
  have HO0 := Lib.hid hO
  have w1 : IntKind.i64.wrap ((m : Int) - (a : Int)) = ((m - a : Nat) : Int) := (IntWalk.i64_in _ (by omega)).trans (by omega)
  have w2 : IntKind.i64.wrap ((b : Int) - (m : Int)) = ((b - m : Nat) : Int) := (IntWalk.i64_in _ (by omega)).trans (by omega)
  have ST := Lib.hid (show zs.Perm zs ∧ ∀ p, rotN zs (m - (m - a)) m (m + (b - m)) p = rotN zs a m b p from ⟨.refl _, fun p => by rw [show m - (m - a) = a by omega, show m + (b - m) = b by omega]⟩)
  obtain ⟨i0, hi0⟩ : ∃ i0, i0 = m - a := ⟨_, rfl⟩
  obtain ⟨j0, hj0⟩ : ∃ j0, j0 = b - m := ⟨_, rfl⟩
  have hib : 0 < i0 ∧ i0 ≤ m := by omega
  have hjb : 0 < j0 ∧ m + j0 ≤ n := by omega
  rw [← hi0] at w1 ST
  rw [← hj0] at w2 ST
  clear hO hi0 hj0
  go_enter Try.func75, Try.ntmps75
  go_wp2_with fail
  go_loopw [10, 11] (fun x y wr => ∃ (i j : Nat) (ds : List Int), (0 < i ∧ i ≤ m) ∧ (0 < j ∧ m + j ≤ n) ∧ x = .int .i64 (i : Int) ∧ y = .int .i64 (j : Int) ∧ Hid (ds.Perm zs ∧ ∀ p, rotN ds (m - i) m (m + j) p = rotN zs a m b p) ∧ Own wr base 3 1 (some ⟨r, 0, none⟩) n c (ints ds) ∧ w.grownBy wr (some r)) (fun x y _ => (intOf x).toNat + (intOf y).toNat)
  case atStart => exact ⟨i0, j0, zs, hib, hjb, rfl, rfl, ST.out, HO0.out, World.grownBy.refl _ _⟩
  case round =>
    clear HO0 ST
    obtain ⟨i, j, ds, hi, hj, rfl, rfl, hs, ho, hg⟩ := hrel
    have hdl : ds.length = n := by rw [hs.out.1.length_eq]; exact hl
    have HG := Lib.hid hg
    have wm : IntKind.i64.wrap ((m : Int) - (i : Int)) = ((m - i : Nat) : Int) := (IntWalk.i64_in _ (by omega)).trans (by omega)
    by_cases hij : i = j
    · subst hij
      have ne : ((i : Int) != (i : Int)) = false := by simp
      have CS := swapRange_c base r n c (m - i) m i ds fv wr ho hn (by omega) (by omega)
      have HF := Lib.hid (show (swapR ds (m - i) m i).Perm zs ∧ ∀ p, nth (swapR ds (m - i) m i) p = rotN zs a m b p from ⟨(swapR_perm i (by omega) (by omega)).trans hs.out.1, fun p => (rot_last hi.2 (by omega) p).trans (hs.out.2 p)⟩)
      have HCS := Lib.hid CS
      clear CS ho hg hs
      go_wp2_with fail
      refine HCS.out.mono ?_; rintro e w3 ⟨rfl, o3, g3⟩
      have O3 := Lib.hid o3
      have G3 := Lib.hid (grown_trans HG.out g3)
      clear o3 g3 HCS
      go_wp2_with fail
      refine bodyPost_end (v := .tuple #[]) (by simp [results, Try.results75, go_sem]) rfl ?_
      exact ⟨rfl, _, HF.out.1, HF.out.2, O3.out, G3.out⟩
    · have ne : ((i : Int) != (j : Int)) = true := by simp; omega
      by_cases hlt : j < i
      · have dl : decide (j < i) = true := decide_eq_true hlt
        have CS := swapRange_c base r n c (m - i) m j ds fv wr ho hn (by omega) (by omega)
        have HF : Hid ((swapR ds (m - i) m j).Perm zs ∧ ∀ p, rotN (swapR ds (m - i) m j) (m - (i - j)) m (m + j) p = rotN zs a m b p) := ⟨(swapR_perm j (by omega) (by omega)).trans hs.out.1, fun p => (rot_left hi.2 hlt (by omega) p).trans (hs.out.2 p)⟩
        have wi : IntKind.i64.wrap ((i : Int) - (j : Int)) = ((i - j : Nat) : Int) := (IntWalk.i64_in _ (by omega)).trans (by omega)
        have HCS := Lib.hid CS
        clear CS ho hg hs
        go_wp2_with fail
        refine HCS.out.mono ?_; rintro e w3 ⟨rfl, o3, g3⟩
        have O3 := Lib.hid o3
        have G3 := Lib.hid (grown_trans HG.out g3)
        clear o3 g3 HCS
        go_wp2_with fail
        go_roundw
        case rel => exact ⟨i - j, j, _, by omega, by omega, rfl, rfl, HF, O3.out, G3.out⟩
        case measure => simp only [intOf, Int.toNat_natCast]; omega
      · have dl : decide (j < i) = false := decide_eq_false hlt
        have CS := swapRange_c base r n c (m - i) (m + j - i) i ds fv wr ho hn (by omega) (by omega)
        have HF : Hid ((swapR ds (m - i) (m + j - i) i).Perm zs ∧ ∀ p, rotN (swapR ds (m - i) (m + j - i) i) (m - i) m (m + (j - i)) p = rotN zs a m b p) := ⟨(swapR_perm i (by omega) (by omega)).trans hs.out.1, fun p => (rot_right hi.2 (by omega) (by omega) p).trans (hs.out.2 p)⟩
        have wj : IntKind.i64.wrap ((j : Int) - (i : Int)) = ((j - i : Nat) : Int) := (IntWalk.i64_in _ (by omega)).trans (by omega)
        have wp : IntKind.i64.wrap ((m : Int) + (j : Int)) = (m : Int) + (j : Int) := IntWalk.i64_in _ (by omega)
        have wq : IntKind.i64.wrap ((m : Int) + (j : Int) - (i : Int)) = ((m + j - i : Nat) : Int) := (IntWalk.i64_in _ (by omega)).trans (by omega)
        have HCS := Lib.hid CS
        clear CS ho hg hs
        go_wp2_with fail
        refine HCS.out.mono ?_; rintro e w3 ⟨rfl, o3, g3⟩
        have O3 := Lib.hid o3
        have G3 := Lib.hid (grown_trans HG.out g3)
        clear o3 g3 HCS
        go_wp2_with fail
        go_roundw
        case rel => exact ⟨i, j - i, _, by omega, by omega, rfl, rfl, HF, O3.out, G3.out⟩
        case measure => simp only [intOf, Int.toNat_natCast]; omega
end Go.Proofs.Ytbenbjbfmcdedaa
