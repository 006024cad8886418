/-
  The contract of slices.symMergeCmpFunc at places: two sorted parts become one. Conditions: the row is the call's own; the left part's places are smaller than the right part's; what cmp answers.
-/
import Derived.Test.YtbenbjbfmcdedaaMerge
import Derived.Deep.CutBlock
namespace Go.Proofs.Ytbenbjbfmcdedaa
open Go.RowKit

def SymSays (base r n c g N : Nat) (cb : Array Value) (key : Int → Int) (d : Nat) : Prop :=
  ∀ (a m b : Nat) (zs : List Int) (w : World), b - a ≤ d → a < m → m < b → b ≤ n → Own w base 3 1 (some ⟨r, 0, none⟩) n c (ints zs) → CmpOk g cb key N w (some r) → (∀ i, i < n → 0 ≤ nth zs i ∧ nth zs i < N) → Mrg key zs a m b →
    Calls Try.prog 68 #[.slice (some ⟨r, 0, none⟩) n c, .int .i64 a, .int .i64 m, .int .i64 b, .func (.func g) #[] cb] w fun e w' => e = .returned (.tuple #[]) ∧ ∃ ds', Srt key zs ds' a b ∧ Own w' base 3 1 (some ⟨r, 0, none⟩) n c (ints ds') ∧ w.grownBy w' (some r)
/-- the right part's cells below i come ahead of the cell a, those from j on do not -/
def SCut (key : Int → Int) (zs : List Int) (a m i j b : Nat) : Prop := (∀ p, m ≤ p → p < i → key (nth zs p) < key (nth zs a)) ∧ ∀ p, j ≤ p → p < b → ¬ key (nth zs p) < key (nth zs a)
/-- the cell a moved up by t -/
def bub (zs : List Int) (a : Nat) : Nat → List Int
  | 0 => zs
  | t + 1 => swp (bub zs a t) (a + t) (a + t + 1)
theorem bub_len (zs : List Int) (a : Nat) : ∀ t, (bub zs a t).length = zs.length
  | 0 => rfl
  | t + 1 => by rw [bub, swp_len, bub_len zs a t]
theorem bub_perm {zs : List Int} {a : Nat} : ∀ t, a + t < zs.length → (bub zs a t).Perm zs
  | 0, _ => .refl _
  | t + 1, h => (swp_perm (by rw [bub_len]; omega) (by rw [bub_len]; omega)).trans (bub_perm t (by omega))
theorem bub_nth {zs : List Int} {a : Nat} : ∀ t, a + t < zs.length → ∀ p, nth (bub zs a t) p = if a ≤ p ∧ p < a + t then nth zs (p + 1) else if p = a + t then nth zs a else nth zs p
  | 0, _, p => by
    rw [bub, if_neg (by omega)]
    split
    · rename_i h; rw [h]; rfl
    · rfl
  | t + 1, h, p => by
    have ih := bub_nth (zs := zs) (a := a) t (by omega)
    rw [bub, swp_nth (by rw [bub_len]; omega) (by rw [bub_len]; omega), ih (a + t), ih (a + t + 1), ih p]
    by_cases e1 : a + t + 1 = p
    · rw [if_pos e1, if_neg (by omega), if_pos rfl, if_neg (by omega), if_pos (by omega)]
    · rw [if_neg e1]
      by_cases e2 : a + t = p
      · rw [if_pos e2, if_neg (by omega), if_neg (by omega), if_pos (by omega), ← e2]
      · rw [if_neg e2]
        by_cases c1 : a ≤ p ∧ p < a + t
        · rw [if_pos c1, if_pos (by omega)]
        · rw [if_neg c1, if_neg (by omega), if_neg (show ¬ (a ≤ p ∧ p < a + (t + 1)) by omega), if_neg (by omega)]
theorem bub_srt {key : Int → Int} {zs : List Int} {a i b : Nat} (h : Mrg key zs a (a + 1) b) (k : SCut key zs a (a + 1) i i b) (hi : a + 1 ≤ i ∧ i ≤ b) (hb : b ≤ zs.length) : Srt key zs (bub zs a (i - 1 - a)) a b := by
  have at_ := bub_nth (zs := zs) (a := a) (i - 1 - a) (by omega)
  have d1 : ∀ p, a ≤ p → p < i - 1 → nth (bub zs a (i - 1 - a)) p = nth zs (p + 1) := fun p h1 h2 => by rw [at_, if_pos (by omega)]
  have d2 : nth (bub zs a (i - 1 - a)) (i - 1) = nth zs a := by rw [at_, if_neg (by omega), if_pos (by omega)]
  have d3 : ∀ p, p < a ∨ i ≤ p → nth (bub zs a (i - 1 - a)) p = nth zs p := fun p hp => by rw [at_, if_neg (by omega), if_neg (by omega)]
  have lt : ∀ p, a + 1 ≤ p → p < i → lexB key (nth zs p) (nth zs a) := fun p h1 h2 => .inl (k.1 p h1 h2)
  have gt : ∀ p, i ≤ p → p < b → lexB key (nth zs a) (nth zs p) := fun p h1 h2 => (h.cmp (p := a) (q := p) (by omega) (by omega)).2 (k.2 p h1 h2)
  refine ⟨bub_perm _ (by omega), fun p hp => d3 p (by omega), fun p h1 h2 => ?_, fun p q h1 h2 h3 => ?_⟩
  · by_cases c1 : p < i - 1
    · exact ⟨p + 1, by omega, by omega, d1 p h1 c1⟩
    · by_cases c2 : p = i - 1
      · exact ⟨a, by omega, by omega, by rw [c2, d2]⟩
      · exact ⟨p, h1, h2, d3 p (by omega)⟩
  · by_cases c1 : q < i - 1
    · rw [d1 p h1 (by omega), d1 q (by omega) c1]; exact h.right _ _ (by omega) (by omega) (by omega)
    · by_cases c2 : q = i - 1
      · rw [c2, d2, d1 p h1 (by omega)]; exact lt _ (by omega) (by omega)
      · rw [d3 q (by omega)]
        by_cases c3 : p < i - 1
        · rw [d1 p h1 c3]; exact h.right _ _ (by omega) (by omega) h3
        · by_cases c4 : p = i - 1
          · rw [c4, d2]; exact gt q (by omega) h3
          · rw [d3 p (by omega)]; exact h.right _ _ (by omega) h2 h3
/-- the middle, as the code reckons it -/
theorem half_bd (i j : Nat) (h : i < j) (hj : j ≤ 1000) : ∃ k : Nat, k = (i + j) / 2 ∧ i ≤ k ∧ k < j := ⟨_, rfl, by omega, by omega⟩
set_option maxRecDepth 100000 in
set_option maxHeartbeats 6400000 in
theorem sym_one (base r n c g N : Nat) (cb : Array Value) (key : Int → Int) (eg : ∀ args w, (callFunc g args).run Try.prog w = .ok (.enter g args) w) (hn : n ≤ 1000) (a b : Nat) (zs : List Int) (w : World) (hmb : a + 1 < b) (hb : b ≤ n)
    (hO : Own w base 3 1 (some ⟨r, 0, none⟩) n c (ints zs)) (hC : CmpOk g cb key N w (some r)) (hN : ∀ i, i < n → 0 ≤ nth zs i ∧ nth zs i < N) (hM : Mrg key zs a (a + 1) b) :
    Calls Try.prog 68 #[.slice (some ⟨r, 0, none⟩) n c, .int .i64 a, .int .i64 ((a + 1 : Nat) : Int), .int .i64 b, .func (.func g) #[] cb] w fun e w' => e = .returned (.tuple #[]) ∧ ∃ ds', Srt key zs ds' a b ∧ Own w' base 3 1 (some ⟨r, 0, none⟩) n c (ints ds') ∧ w.grownBy w' (some r) := by
  have hl : zs.length = n := by have := hO.len; rw [ints_len] at this; omega
  have mixed : Try.prog.follows .mixedOrders = true := by kernel_rfl
  have HO0 := Lib.hid hO
  have HC := Lib.hid hC
  have HN := Lib.hid hN
  have HM := Lib.hid hM
  obtain ⟨m, hm⟩ : ∃ m, m = a + 1 := ⟨_, rfl⟩
  rw [← hm]
  have w1 : IntKind.i64.wrap ((m : Int) - (a : Int)) = 1 := (IntWalk.i64_in _ (by omega)).trans (by omega)
  have HMA := Lib.hid hm
  have hmn : m < b ∧ a < m := by omega
  clear hO hC hN hM hm hmb
  go_enter Try.func68, Try.ntmps68
  go_wp2_with fail
  go_loopw [10, 11] (fun x y wr => ∃ i j : Nat, (m ≤ i ∧ i ≤ j ∧ j ≤ b) ∧ x = .int .i64 (i : Int) ∧ y = .int .i64 (j : Int) ∧ Hid (SCut key zs a m i j b) ∧ Ext w wr) (fun x y _ => (intOf y).toNat - (intOf x).toNat)
  case atStart => exact ⟨m, b, by omega, rfl, rfl, ⟨fun p h1 h2 => by omega, fun p h1 h2 => by omega⟩, Ext.refl _⟩
  case round =>
    obtain ⟨i, j, hij, rfl, rfl, hs, hx⟩ := hrel
    by_cases hlt : i < j
    · have dk : decide (i < j) = true := decide_eq_true hlt
      go_upto_region 5 with fail
      obtain ⟨k, hk⟩ : ∃ k : Nat, k = (i + j) / 2 := ⟨_, rfl⟩
      have ek : ((i : Int) + (j : Int)) / 2 = (k : Int) := by rw [hk]; simp
      rw [ek]
      have hkb : i ≤ k ∧ k < j := by omega
      clear hk ek
      have oo := HO0.out.ext hx
      have c0 := World.ownsRow.cellAt oo k (by omega)
      have c1 := World.ownsRow.cellAt oo a (by omega)
      rw [ints_get zs k (by omega)] at c0
      rw [ints_get zs a (by omega)] at c1
      have HCC := Lib.hid (fun w' (x : Ext wr w') => HC.out w' (grown_ext (World.grownBy.refl _ _) (hx.trans x)) (nth zs k) (nth zs a) (HN.out k (by omega)) (HN.out a (by omega)))
      have YES := Lib.hid (fun (h : key (nth zs k) < key (nth zs a)) => show SCut key zs a m (k + 1) j b from ⟨fun p h1 h2 => by
        by_cases e : p = k
        · rw [e]; exact h
        · have h3 := HM.out.right p k (by rw [← HMA.out]; exact h1) (by omega) (by omega)
          unfold lexB at h3; omega, hs.out.2⟩)
      have NOPE := Lib.hid (fun (h : ¬ key (nth zs k) < key (nth zs a)) => show SCut key zs a m i k b from ⟨hs.out.1, fun p h1 h2 => by
        by_cases e : p = k
        · rw [e]; exact h
        · have h3 := HM.out.right k p (by rw [← HMA.out]; omega) (by omega) h2
          unfold lexB at h3; omega⟩)
      obtain ⟨u, hu⟩ : ∃ u, u = nth zs k := ⟨_, rfl⟩
      obtain ⟨v, hv⟩ : ∃ v, v = nth zs a := ⟨_, rfl⟩
      rw [← hu] at c0 HCC YES NOPE
      rw [← hv] at c1 HCC YES NOPE
      clear hu hv
      have k0 : (0 : Int) ≤ (k : Int) := by omega
      have k1 : (k : Int) < (n : Int) := by omega
      have a0 : (0 : Int) ≤ (a : Int) := by omega
      have a1 : (a : Int) < (n : Int) := by omega
      clear oo
      by_cases hkk : key u < key v
      · have dc : decide (key u - key v < 0) = true := decide_eq_true (by omega)
        have Y := Lib.hid (YES.out hkk)
        clear hkk
        go_wp2_with fail
        go_region_held3 (fun w' => w'.cell? ⟨r, k, none⟩ = some (.int .i64 u) ∧ w'.cell? ⟨r, a, none⟩ = some (.int .i64 v)) (first | go_keep | exact ⟨c0, c1⟩ | (refine ⟨?_, ?_⟩ <;> assumption)) ((go_at_fn g; refine (HCC.out _ (by (repeat (first | exact Ext.refl _ | assumption | refine Ext.alloc ?_ _ | refine Ext.drew ?_ | refine Ext.drewN ?_ _ | refine Ext.setCell ?_ (by (try simp only [World.size_alloc, World.size_setCell, World.size_drew, World.heap_drewN]); omega) _ | refine Ext.step (by assumption) ?_)))).mono ?_; rintro e w2 ⟨rfl, x2⟩; have c2 := x2.got (Ext.got (w1 := _) (by (repeat (first | exact Ext.refl _ | assumption | refine Ext.alloc ?_ _ | refine Ext.drew ?_ | refine Ext.drewN ?_ _ | refine Ext.setCell ?_ (by (try simp only [World.size_alloc, World.size_setCell, World.size_drew, World.heap_drewN]); omega) _ | refine Ext.step (by assumption) ?_))) c0); have c3 := x2.got (Ext.got (w1 := _) (by (repeat (first | exact Ext.refl _ | assumption | refine Ext.alloc ?_ _ | refine Ext.drew ?_ | refine Ext.drewN ?_ _ | refine Ext.setCell ?_ (by (try simp only [World.size_alloc, World.size_setCell, World.size_drew, World.heap_drewN]); omega) _ | refine Ext.step (by assumption) ?_))) c1)))
        all_goals
          go_wp2_with fail
          go_roundw
          case rel => exact ⟨k + 1, j, by omega, by go_num, rfl, Y.out, hx.trans (by (repeat (first | exact Ext.refl _ | assumption | refine Ext.alloc ?_ _ | refine Ext.drew ?_ | refine Ext.drewN ?_ _ | refine Ext.setCell ?_ (by (try simp only [World.size_alloc, World.size_setCell, World.size_drew, World.heap_drewN]); omega) _ | refine Ext.step (by assumption) ?_)))⟩
          case measure => simp [intOf]; omega
      · have dc : decide (key u - key v < 0) = false := decide_eq_false (by omega)
        have Y := Lib.hid (NOPE.out hkk)
        clear hkk
        go_wp2_with fail
        go_region_held3 (fun w' => w'.cell? ⟨r, k, none⟩ = some (.int .i64 u) ∧ w'.cell? ⟨r, a, none⟩ = some (.int .i64 v)) (first | go_keep | exact ⟨c0, c1⟩ | (refine ⟨?_, ?_⟩ <;> assumption)) ((go_at_fn g; refine (HCC.out _ (by (repeat (first | exact Ext.refl _ | assumption | refine Ext.alloc ?_ _ | refine Ext.drew ?_ | refine Ext.drewN ?_ _ | refine Ext.setCell ?_ (by (try simp only [World.size_alloc, World.size_setCell, World.size_drew, World.heap_drewN]); omega) _ | refine Ext.step (by assumption) ?_)))).mono ?_; rintro e w2 ⟨rfl, x2⟩; have c2 := x2.got (Ext.got (w1 := _) (by (repeat (first | exact Ext.refl _ | assumption | refine Ext.alloc ?_ _ | refine Ext.drew ?_ | refine Ext.drewN ?_ _ | refine Ext.setCell ?_ (by (try simp only [World.size_alloc, World.size_setCell, World.size_drew, World.heap_drewN]); omega) _ | refine Ext.step (by assumption) ?_))) c0); have c3 := x2.got (Ext.got (w1 := _) (by (repeat (first | exact Ext.refl _ | assumption | refine Ext.alloc ?_ _ | refine Ext.drew ?_ | refine Ext.drewN ?_ _ | refine Ext.setCell ?_ (by (try simp only [World.size_alloc, World.size_setCell, World.size_drew, World.heap_drewN]); omega) _ | refine Ext.step (by assumption) ?_))) c1)))
        all_goals
          go_wp2_with fail
          go_roundw
          case rel => exact ⟨i, k, by omega, rfl, rfl, Y.out, hx.trans (by (repeat (first | exact Ext.refl _ | assumption | refine Ext.alloc ?_ _ | refine Ext.drew ?_ | refine Ext.drewN ?_ _ | refine Ext.setCell ?_ (by (try simp only [World.size_alloc, World.size_setCell, World.size_drew, World.heap_drewN]); omega) _ | refine Ext.step (by assumption) ?_)))⟩
          case measure => simp [intOf]; omega
    · obtain rfl : i = j := by omega
      have dk : decide (i < i) = false := decide_eq_false (by omega)
      have oo := Lib.hid (HO0.out.ext hx)
      have gg := Lib.hid (grown_ext (World.grownBy.refl w (some r)) hx)
      have FIN := Lib.hid (show Srt key zs (bub zs a (i - 1 - a)) a b from by
        have h1 := HMA.out
        have h2 := hs.out
        rw [h1] at h2
        exact bub_srt HM.out h2 (by omega) (by omega))
      have wi : IntKind.i64.wrap ((i : Int) - 1) = ((i - 1 : Nat) : Int) := (IntWalk.i64_in _ (by omega)).trans (by omega)
      obtain ⟨e, he⟩ : ∃ e, e = i - 1 := ⟨_, rfl⟩
      have heb : a ≤ e ∧ e < n := by have := HMA.out; omega
      rw [← he] at wi FIN
      have HEI := Lib.hid he
      clear he hx hs
      go_wp2_with fail
      go_loopw [13] (fun v wr => ∃ t : Nat, a + t ≤ e ∧ v = .int .i64 ((a + t : Nat) : Int) ∧ Own wr base 3 1 (some ⟨r, 0, none⟩) n c (ints (bub zs a t)) ∧ w.grownBy wr (some r)) (fun v _ => e - (intOf v).toNat)
      case atStart => exact ⟨0, by omega, rfl, oo.out, gg.out⟩
      case round =>
        clear oo gg
        obtain ⟨t, ht, rfl, ho, hg⟩ := hrel
        obtain ⟨x0, hx0⟩ : ∃ x0, x0 = a + t := ⟨_, rfl⟩
        rw [← hx0]
        by_cases hlt : x0 < e
        · have dk : decide (x0 < e) = true := decide_eq_true hlt
          obtain ⟨ys, hys⟩ : ∃ ys, ys = bub zs a t := ⟨_, rfl⟩
          have hyl : ys.length = n := by rw [hys, bub_len]; exact hl
          have HS := Lib.hid (show bub zs a (t + 1) = swp ys x0 (x0 + 1) from by rw [hys, hx0]; rfl)
          have HX0 := Lib.hid (show a + (t + 1) = x0 + 1 from by omega)
          rw [← hys] at ho
          clear hys hx0
          obtain ⟨x1, hx1⟩ : ∃ x1, x1 = x0 + 1 := ⟨_, rfl⟩
          rw [← hx1] at HS
          have c0 := World.ownsRow.cellAt ho x0 (by omega)
          have c1 := World.ownsRow.cellAt ho x1 (by omega)
          rw [ints_get ys x0 (by omega)] at c0
          rw [ints_get ys x1 (by omega)] at c1
          obtain ⟨u, hu⟩ : ∃ u, u = nth ys x0 := ⟨_, rfl⟩
          obtain ⟨y, hy⟩ : ∃ y, y = nth ys x1 := ⟨_, rfl⟩
          rw [← hu] at c0
          rw [← hy] at c1
          have f2 := World.ownsRow.frozenAt ho x0
          have f3 := World.ownsRow.frozenAt ho x1
          have O3 := World.ownsRow.stored ho x0 (.int .i64 y)
          have c4 := World.ownsRow.cellAt O3.1 x1 (by omega)
          rw [List.getElem?_set_ne (by omega), ints_get ys x1 (by omega), ← hy] at c4
          have S2 := own_swp (i := x0) (j := x1) ho
          rw [← hu, ← hy] at S2
          have HS2 := Lib.hid S2
          have GS := Lib.hid (grown_ext (grownBy_set (j := x1) (u := .int .i64 u) (grownBy_set (j := x0) (u := .int .i64 y) hg)) (Ext.drew (Ext.refl _)))
          have wj : IntKind.i64.wrap ((x0 : Int) + 1) = (x1 : Int) := (IntWalk.i64_in _ (by omega)).trans (by omega)
          have i0 : (0 : Int) ≤ (x0 : Int) := by omega
          have i1 : (x0 : Int) < (n : Int) := by omega
          have j0 : (0 : Int) ≤ (x1 : Int) := by omega
          have j1 : (x1 : Int) < (n : Int) := by omega
          have HX1 := Lib.hid hx1
          clear ho O3 S2 hu hy hg hx1
          go_wp2_with fail
          go_big_region_o
          generalize ((wr.setCell ⟨r, x0, none⟩ (.int .i64 y)).setCell ⟨r, x1, none⟩ (.int .i64 u)).drew = w3 at *
          clear c0 c1 c4 f2 f3
          go_wp2_with fail
          go_roundw
          case rel => exact ⟨t + 1, by have := HX0.out; omega, congrArg (Value.int .i64) (by have := HX0.out; have := HX1.out; omega), by rw [HS.out]; exact HS2.out, GS.out⟩
          case measure => simp only [intOf, Int.toNat_natCast]; have := HX1.out; omega
        · have dk : decide (x0 < e) = false := decide_eq_false hlt
          have FO := Lib.hid (show Own wr base 3 1 (some ⟨r, 0, none⟩) n c (ints (bub zs a (e - a))) from by rw [show e - a = t by omega]; exact ho)
          have FG := Lib.hid hg
          clear ho hg
          go_wp2_with fail
          refine bodyPost_ret (v := .tuple #[]) (by simp [results, Try.results68, go_sem]) rfl ?_
          exact ⟨rfl, _, FIN.out, FO.out, FG.out⟩
end Go.Proofs.Ytbenbjbfmcdedaa
