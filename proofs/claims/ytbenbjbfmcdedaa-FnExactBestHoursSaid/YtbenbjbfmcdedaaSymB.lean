/-
  The second case of symMerge: the right part is one cell (sym_last). Conditions: those of sym_one.
-/
import Derived.Test.YtbenbjbfmcdedaaSym
namespace Go.Proofs.Ytbenbjbfmcdedaa
open Go.RowKit

/-- the left part's cells below i stay ahead of the cell m, those from j on do not -/
def SCutR (key : Int → Int) (zs : List Int) (a m i j : Nat) : Prop := (∀ p, a ≤ p → p < i → ¬ key (nth zs m) < key (nth zs p)) ∧ ∀ p, j ≤ p → p < m → key (nth zs m) < key (nth zs p)
/-- the cell m moved down by t -/
def bubD (zs : List Int) (m : Nat) : Nat → List Int
  | 0 => zs
  | t + 1 => swp (bubD zs m t) (m - t) (m - t - 1)
theorem bubD_len (zs : List Int) (m : Nat) : ∀ t, (bubD zs m t).length = zs.length
  | 0 => rfl
  | t + 1 => by rw [bubD, swp_len, bubD_len zs m t]
theorem bubD_perm {zs : List Int} {m : Nat} (hm : m < zs.length) : ∀ t, t ≤ m → (bubD zs m t).Perm zs
  | 0, _ => .refl _
  | t + 1, h => (swp_perm (by rw [bubD_len]; omega) (by rw [bubD_len]; omega)).trans (bubD_perm hm t (by omega))
theorem bubD_nth {zs : List Int} {m : Nat} (hm : m < zs.length) : ∀ t, t ≤ m → ∀ p, nth (bubD zs m t) p = if m - t < p ∧ p ≤ m then nth zs (p - 1) else if p = m - t then nth zs m else nth zs p
  | 0, _, p => by
    rw [bubD, if_neg (by omega)]
    split
    · rename_i h; rw [h]; rfl
    · rfl
  | t + 1, h, p => by
    have ih := bubD_nth (zs := zs) hm t (by omega)
    rw [bubD, swp_nth (by rw [bubD_len]; omega) (by rw [bubD_len]; omega), ih (m - t), ih (m - t - 1), ih p]
    by_cases e1 : m - t - 1 = p
    · rw [if_pos e1, if_neg (by omega), if_pos rfl, if_neg (by omega), if_pos (by omega)]
    · rw [if_neg e1]
      by_cases e2 : m - t = p
      · rw [if_pos e2, if_neg (by omega), if_neg (by omega), if_pos (by omega), ← e2]
      · rw [if_neg e2]
        by_cases c1 : m - t < p ∧ p ≤ m
        · rw [if_pos c1, if_pos (by omega)]
        · rw [if_neg c1, if_neg (by omega), if_neg (show ¬ (m - (t + 1) < p ∧ p ≤ m) by omega), if_neg (by omega)]
theorem bubD_srt {key : Int → Int} {zs : List Int} {a i m : Nat} (h : Mrg key zs a m (m + 1)) (k : SCutR key zs a m i i) (hi : a ≤ i ∧ i ≤ m) (hb : m < zs.length) : Srt key zs (bubD zs m (m - i)) a (m + 1) := by
  have at_ := bubD_nth (zs := zs) hb (m - i) (by omega)
  have d1 : ∀ p, i < p → p ≤ m → nth (bubD zs m (m - i)) p = nth zs (p - 1) := fun p h1 h2 => by rw [at_, if_pos (by omega)]
  have d2 : nth (bubD zs m (m - i)) i = nth zs m := by rw [at_, if_neg (by omega), if_pos (by omega)]
  have d3 : ∀ p, p < i ∨ m < p → nth (bubD zs m (m - i)) p = nth zs p := fun p hp => by rw [at_, if_neg (by omega), if_neg (by omega)]
  have gt : ∀ p, i ≤ p → p < m → lexB key (nth zs m) (nth zs p) := fun p h1 h2 => .inl (k.2 p h1 h2)
  have lt : ∀ p, a ≤ p → p < i → lexB key (nth zs p) (nth zs m) := fun p h1 h2 => (h.cmp (p := p) (q := m) (by omega) (by omega)).2 (k.1 p h1 h2)
  refine ⟨bubD_perm hb _ (by omega), fun p hp => d3 p (by omega), fun p h1 h2 => ?_, fun p q h1 h2 h3 => ?_⟩
  · by_cases c1 : p < i
    · exact ⟨p, h1, h2, d3 p (.inl c1)⟩
    · by_cases c2 : p = i
      · exact ⟨m, by omega, by omega, by rw [c2, d2]⟩
      · exact ⟨p - 1, by omega, by omega, d1 p (by omega) (by omega)⟩
  · by_cases c1 : q < i
    · rw [d3 p (by omega), d3 q (.inl c1)]; exact h.left _ _ h1 h2 (by omega)
    · by_cases c2 : q = i
      · rw [c2, d2, d3 p (by omega)]; exact lt p h1 (by omega)
      · rw [d1 q (by omega) (by omega)]
        by_cases c3 : p < i
        · rw [d3 p (.inl c3)]; exact h.left _ _ h1 (by omega) (by omega)
        · by_cases c4 : p = i
          · rw [c4, d2]; exact gt _ (by omega) (by omega)
          · rw [d1 p (by omega) (by omega)]; exact h.left _ _ (by omega) (by omega) (by omega)
set_option maxRecDepth 100000 in
set_option maxHeartbeats 6400000 in
theorem sym_last (base r n c g N : Nat) (cb : Array Value) (key : Int → Int) (eg : ∀ args w, (callFunc g args).run Try.prog w = .ok (.enter g args) w) (hn : n ≤ 1000) (a m : Nat) (zs : List Int) (w : World) (hmb : a + 1 < m) (hb : m + 1 ≤ n)
    (hO : Own w base 3 1 (some ⟨r, 0, none⟩) n c (ints zs)) (hC : CmpOk g cb key N w (some r)) (hN : ∀ i, i < n → 0 ≤ nth zs i ∧ nth zs i < N) (hM : Mrg key zs a m (m + 1)) :
    Calls Try.prog 68 #[.slice (some ⟨r, 0, none⟩) n c, .int .i64 a, .int .i64 m, .int .i64 ((m + 1 : Nat) : Int), .func (.func g) #[] cb] w fun e w' => e = .returned (.tuple #[]) ∧ ∃ ds', Srt key zs ds' a (m + 1) ∧ Own w' base 3 1 (some ⟨r, 0, none⟩) n c (ints ds') ∧ w.grownBy w' (some r) := by
  have hl : zs.length = n := by have := hO.len; rw [ints_len] at this; omega
  have mixed : Try.prog.follows .mixedOrders = true := by kernel_rfl
  have HO0 := Lib.hid hO
  have HC := Lib.hid hC
  have HN := Lib.hid hN
  have HM := Lib.hid hM
  obtain ⟨b, hm⟩ : ∃ b, b = m + 1 := ⟨_, rfl⟩
  rw [← hm]
  obtain ⟨l0, hl0⟩ : ∃ l0 : Int, l0 = (m : Int) - (a : Int) := ⟨_, rfl⟩
  have w0 : IntKind.i64.wrap ((m : Int) - (a : Int)) = l0 := (IntWalk.i64_in _ (by omega)).trans hl0.symm
  have w0' : (l0 == 1) = false := by simp; omega
  have w1 : IntKind.i64.wrap ((b : Int) - (m : Int)) = 1 := (IntWalk.i64_in _ (by omega)).trans (by omega)
  have HMA := Lib.hid hm
  have hmn : a + 1 < m ∧ b ≤ n ∧ m < n ∧ m ≤ 1000 := by omega
  clear hl0
  clear hO hC hN hM hm hmb hb
  go_enter Try.func68, Try.ntmps68
  go_wp2_with fail
  go_loopw [14, 15] (fun x y wr => ∃ i j : Nat, (a ≤ i ∧ i ≤ j ∧ j ≤ m) ∧ x = .int .i64 (i : Int) ∧ y = .int .i64 (j : Int) ∧ Hid (SCutR key zs a m i j) ∧ Ext w wr) (fun x y _ => (intOf y).toNat - (intOf x).toNat)
  case atStart => exact ⟨a, m, by omega, rfl, rfl, ⟨fun p h1 h2 => by omega, fun p h1 h2 => by omega⟩, Ext.refl _⟩
  case round =>
    obtain ⟨i, j, hij, rfl, rfl, hs, hx⟩ := hrel
    by_cases hlt : i < j
    · have dk : decide (i < j) = true := decide_eq_true hlt
      go_upto_region 17 with fail
      obtain ⟨k, hk⟩ : ∃ k : Nat, k = (i + j) / 2 := ⟨_, rfl⟩
      have ek : ((i : Int) + (j : Int)) / 2 = (k : Int) := by rw [hk]; simp
      rw [ek]
      have hkb : i ≤ k ∧ k < j := by omega
      clear hk ek
      have oo := HO0.out.ext hx
      have c0 := World.ownsRow.cellAt oo k (by omega)
      have c1 := World.ownsRow.cellAt oo m (by omega)
      rw [ints_get zs k (by omega)] at c0
      rw [ints_get zs m (by omega)] at c1
      have HCC := Lib.hid (fun w' (x : Ext wr w') => HC.out w' (grown_ext (World.grownBy.refl _ _) (hx.trans x)) (nth zs m) (nth zs k) (HN.out m (by omega)) (HN.out k (by omega)))
      have YES := Lib.hid (fun (h : key (nth zs m) < key (nth zs k)) => show SCutR key zs a m i k from ⟨hs.out.1, fun p h1 h2 => by
        by_cases e : p = k
        · rw [e]; exact h
        · have h3 := HM.out.left k p (by omega) (by omega) (by omega)
          unfold lexB at h3; omega⟩)
      have NOPE := Lib.hid (fun (h : ¬ key (nth zs m) < key (nth zs k)) => show SCutR key zs a m (k + 1) j from ⟨fun p h1 h2 => by
        by_cases e : p = k
        · rw [e]; exact h
        · have h3 := HM.out.left p k (by omega) (by omega) (by omega)
          unfold lexB at h3; omega, hs.out.2⟩)
      obtain ⟨u, hu⟩ : ∃ u, u = nth zs k := ⟨_, rfl⟩
      obtain ⟨v, hv⟩ : ∃ v, v = nth zs m := ⟨_, rfl⟩
      rw [← hu] at c0 HCC YES NOPE
      rw [← hv] at c1 HCC YES NOPE
      clear hu hv
      have k0 : (0 : Int) ≤ (k : Int) := by omega
      have k1 : (k : Int) < (n : Int) := by omega
      have a0 : (0 : Int) ≤ (m : Int) := by omega
      have a1 : (m : Int) < (n : Int) := by omega
      clear oo
      by_cases hkk : key v < key u
      · have dc : decide (key v - key u < 0) = true := decide_eq_true (by omega)
        have Y := Lib.hid (YES.out hkk)
        clear hkk
        go_wp2_with fail
        go_region_held3 (fun w' => w'.cell? ⟨r, k, none⟩ = some (.int .i64 u) ∧ w'.cell? ⟨r, m, none⟩ = some (.int .i64 v)) (first | go_keep | exact ⟨c0, c1⟩ | (refine ⟨?_, ?_⟩ <;> assumption)) ((go_at_fn g; refine (HCC.out _ (by (repeat (first | exact Ext.refl _ | assumption | refine Ext.alloc ?_ _ | refine Ext.drew ?_ | refine Ext.drewN ?_ _ | refine Ext.setCell ?_ (by (try simp only [World.size_alloc, World.size_setCell, World.size_drew, World.heap_drewN]); omega) _ | refine Ext.step (by assumption) ?_)))).mono ?_; rintro e w2 ⟨rfl, x2⟩; have c2 := x2.got (Ext.got (w1 := _) (by (repeat (first | exact Ext.refl _ | assumption | refine Ext.alloc ?_ _ | refine Ext.drew ?_ | refine Ext.drewN ?_ _ | refine Ext.setCell ?_ (by (try simp only [World.size_alloc, World.size_setCell, World.size_drew, World.heap_drewN]); omega) _ | refine Ext.step (by assumption) ?_))) c0); have c3 := x2.got (Ext.got (w1 := _) (by (repeat (first | exact Ext.refl _ | assumption | refine Ext.alloc ?_ _ | refine Ext.drew ?_ | refine Ext.drewN ?_ _ | refine Ext.setCell ?_ (by (try simp only [World.size_alloc, World.size_setCell, World.size_drew, World.heap_drewN]); omega) _ | refine Ext.step (by assumption) ?_))) c1)))
        all_goals
          go_wp2_with fail
          go_roundw
          case rel => exact ⟨i, k, by omega, rfl, rfl, Y.out, hx.trans (by (repeat (first | exact Ext.refl _ | assumption | refine Ext.alloc ?_ _ | refine Ext.drew ?_ | refine Ext.drewN ?_ _ | refine Ext.setCell ?_ (by (try simp only [World.size_alloc, World.size_setCell, World.size_drew, World.heap_drewN]); omega) _ | refine Ext.step (by assumption) ?_)))⟩
          case measure => simp [intOf]; omega
      · have dc : decide (key v - key u < 0) = false := decide_eq_false (by omega)
        have Y := Lib.hid (NOPE.out hkk)
        clear hkk
        go_wp2_with fail
        go_region_held3 (fun w' => w'.cell? ⟨r, k, none⟩ = some (.int .i64 u) ∧ w'.cell? ⟨r, m, none⟩ = some (.int .i64 v)) (first | go_keep | exact ⟨c0, c1⟩ | (refine ⟨?_, ?_⟩ <;> assumption)) ((go_at_fn g; refine (HCC.out _ (by (repeat (first | exact Ext.refl _ | assumption | refine Ext.alloc ?_ _ | refine Ext.drew ?_ | refine Ext.drewN ?_ _ | refine Ext.setCell ?_ (by (try simp only [World.size_alloc, World.size_setCell, World.size_drew, World.heap_drewN]); omega) _ | refine Ext.step (by assumption) ?_)))).mono ?_; rintro e w2 ⟨rfl, x2⟩; have c2 := x2.got (Ext.got (w1 := _) (by (repeat (first | exact Ext.refl _ | assumption | refine Ext.alloc ?_ _ | refine Ext.drew ?_ | refine Ext.drewN ?_ _ | refine Ext.setCell ?_ (by (try simp only [World.size_alloc, World.size_setCell, World.size_drew, World.heap_drewN]); omega) _ | refine Ext.step (by assumption) ?_))) c0); have c3 := x2.got (Ext.got (w1 := _) (by (repeat (first | exact Ext.refl _ | assumption | refine Ext.alloc ?_ _ | refine Ext.drew ?_ | refine Ext.drewN ?_ _ | refine Ext.setCell ?_ (by (try simp only [World.size_alloc, World.size_setCell, World.size_drew, World.heap_drewN]); omega) _ | refine Ext.step (by assumption) ?_))) c1)))
        all_goals
          go_wp2_with fail
          go_roundw
          case rel => exact ⟨k + 1, j, by omega, by go_num, rfl, Y.out, hx.trans (by (repeat (first | exact Ext.refl _ | assumption | refine Ext.alloc ?_ _ | refine Ext.drew ?_ | refine Ext.drewN ?_ _ | refine Ext.setCell ?_ (by (try simp only [World.size_alloc, World.size_setCell, World.size_drew, World.heap_drewN]); omega) _ | refine Ext.step (by assumption) ?_)))⟩
          case measure => simp [intOf]; omega
    · obtain rfl : i = j := by omega
      have dk : decide (i < i) = false := decide_eq_false (by omega)
      have oo := Lib.hid (HO0.out.ext hx)
      have gg := Lib.hid (grown_ext (World.grownBy.refl w (some r)) hx)
      have FIN := Lib.hid (show Srt key zs (bubD zs m (m - i)) a b from by rw [HMA.out]; exact bubD_srt HM.out hs.out (by omega) (by omega))
      clear hx hs
      go_wp2_with fail
      go_loopw [17] (fun v wr => ∃ t : Nat, i + t ≤ m ∧ v = .int .i64 ((m - t : Nat) : Int) ∧ Own wr base 3 1 (some ⟨r, 0, none⟩) n c (ints (bubD zs m t)) ∧ w.grownBy wr (some r)) (fun v _ => (intOf v).toNat)
      case atStart => exact ⟨0, by omega, rfl, oo.out, gg.out⟩
      case round =>
        clear oo gg
        obtain ⟨t, ht, rfl, ho, hg⟩ := hrel
        obtain ⟨x0, hx0⟩ : ∃ x0, x0 = m - t := ⟨_, rfl⟩
        rw [← hx0]
        by_cases hlt : i < x0
        · have dk : decide (i < x0) = true := decide_eq_true hlt
          obtain ⟨ys, hys⟩ : ∃ ys, ys = bubD zs m t := ⟨_, rfl⟩
          have hyl : ys.length = n := by rw [hys, bubD_len]; exact hl
          have HS := Lib.hid (show bubD zs m (t + 1) = swp ys x0 (x0 - 1) from by rw [hys, hx0]; rfl)
          have HX0 := Lib.hid (show m - (t + 1) = x0 - 1 ∧ i + (t + 1) ≤ m from by omega)
          have hxn : x0 < n := by omega
          rw [← hys] at ho
          clear hys hx0
          obtain ⟨x1, hx1⟩ : ∃ x1, x1 = x0 - 1 := ⟨_, rfl⟩
          rw [← hx1] at HS
          have c0 := World.ownsRow.cellAt ho x0 (by omega)
          have c1 := World.ownsRow.cellAt ho x1 (by omega)
          rw [ints_get ys x0 (by omega)] at c0
          rw [ints_get ys x1 (by omega)] at c1
          obtain ⟨u, hu⟩ : ∃ u, u = nth ys x0 := ⟨_, rfl⟩
          obtain ⟨y, hy⟩ : ∃ y, y = nth ys x1 := ⟨_, rfl⟩
          rw [← hu] at c0
          rw [← hy] at c1
          have f2 := World.ownsRow.frozenAt ho x0
          have f3 := World.ownsRow.frozenAt ho x1
          have O3 := World.ownsRow.stored ho x0 (.int .i64 y)
          have c4 := World.ownsRow.cellAt O3.1 x1 (by omega)
          rw [List.getElem?_set_ne (by omega), ints_get ys x1 (by omega), ← hy] at c4
          have S2 := own_swp (i := x0) (j := x1) ho
          rw [← hu, ← hy] at S2
          have HS2 := Lib.hid S2
          have GS := Lib.hid (grown_ext (grownBy_set (j := x1) (u := .int .i64 u) (grownBy_set (j := x0) (u := .int .i64 y) hg)) (Ext.drew (Ext.refl _)))
          have wj : IntKind.i64.wrap ((x0 : Int) - 1) = (x1 : Int) := (IntWalk.i64_in _ (by omega)).trans (by omega)
          have i0 : (0 : Int) ≤ (x0 : Int) := by omega
          have i1 : (x0 : Int) < (n : Int) := by omega
          have j0 : (0 : Int) ≤ (x1 : Int) := by omega
          have j1 : (x1 : Int) < (n : Int) := by omega
          have hx10 : x1 < x0 := by omega
          have HX1 := Lib.hid hx1
          clear ho O3 S2 hu hy hg hx1
          go_wp2_with fail
          go_big_region_o
          generalize ((wr.setCell ⟨r, x0, none⟩ (.int .i64 y)).setCell ⟨r, x1, none⟩ (.int .i64 u)).drew = w3 at *
          clear c0 c1 c4 f2 f3
          go_wp2_with fail
          go_roundw
          case rel => exact ⟨t + 1, HX0.out.2, congrArg (Value.int .i64) (by have := HX0.out.1; have := HX1.out; omega), by rw [HS.out]; exact HS2.out, GS.out⟩
          case measure => simp only [intOf, Int.toNat_natCast]; omega
        · have dk : decide (i < x0) = false := decide_eq_false hlt
          have FO := Lib.hid (show Own wr base 3 1 (some ⟨r, 0, none⟩) n c (ints (bubD zs m (m - i))) from by rw [show m - i = t by omega]; exact ho)
          have FG := Lib.hid hg
          clear ho hg
          go_wp2_with fail
          refine bodyPost_ret (v := .tuple #[]) (by simp [results, Try.results68, go_sem]) rfl ?_
          exact ⟨rfl, _, FIN.out, FO.out, FG.out⟩
end Go.Proofs.Ytbenbjbfmcdedaa
