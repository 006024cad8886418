/-
  The contract of slices.insertionSortCmpFunc at places: the row is sorted by key and place. Conditions: the row is the call's own, its places stand in ascending order; what cmp answers.
-/
import Derived.Test.YtbenbjbfmcdedaaStab
import Derived.Test.YtbenbjbfmcdedaaMore
import Derived.Deep.QuietTactic
import Derived.Deep.DeepCutAuto
import Derived.Deep.CutRange
import Derived.Deep.RegionHeld3
import Derived.Shelf.RegionOpenPlain
import Derived.Shelf.Abstract
import Derived.IntWalk
namespace Go.Proofs.Ytbenbjbfmcdedaa
open Go.RowKit

/-- what is asked of cmp: at places below N it answers the difference of their keys, in every world that differs in the row only -/
def CmpOk (g : Nat) (cb : Array Value) (key : Int → Int) (N : Nat) (w0 : World) (r : Option Nat) : Prop :=
  ∀ w, w0.grownBy w r → ∀ x y : Int, (0 ≤ x ∧ x < N) → (0 ≤ y ∧ y < N) → Calls Try.prog g (#[.int .i64 x, .int .i64 y] ++ cb) w fun e w' => e = .returned (.int .i64 (key x - key y)) ∧ Ext w w'
theorem grown_ext {w0 w w' : World} {r : Option Nat} (h : w0.grownBy w r) (x : Ext w w') : w0.grownBy w' r :=
  ⟨x.os.trans h.os, x.tape.trans h.tape, x.output.trans h.output, Nat.le_trans h.size x.size, fun k hk hr => (x.block k (Nat.lt_of_lt_of_le hk h.size)).trans (h.block k hk hr)⟩
theorem grown_trans {w0 w w' : World} {r : Option Nat} (h : w0.grownBy w r) (k : w.grownBy w' r) : w0.grownBy w' r :=
  ⟨k.os.trans h.os, k.tape.trans h.tape, k.output.trans h.output, Nat.le_trans h.size k.size, fun i hi hr => (k.block i (Nat.lt_of_lt_of_le hi h.size) hr).trans (h.block i hi hr)⟩
theorem CmpOk.later {g : Nat} {cb : Array Value} {key : Int → Int} {N : Nat} {w0 w : World} {r : Option Nat} (h : CmpOk g cb key N w0 r) (k : w0.grownBy w r) : CmpOk g cb key N w r := fun w' hw => h w' (grown_trans k hw)
theorem ints_set (zs : List Int) (i : Nat) (x : Int) : (ints zs).set i (.int .i64 x) = ints (zs.set i x) := by simp [ints, List.map_set]
/-- two cells of an own row changed for each other -/
theorem own_swp {w : World} {base g n c i j : Nat} {zs : List Int} (h : Own w base 3 1 (some ⟨g, 0, none⟩) n c (ints zs)) : Own (((w.setCell ⟨g, i, none⟩ (.int .i64 (nth zs j))).setCell ⟨g, j, none⟩ (.int .i64 (nth zs i))).drew) base 3 1 (some ⟨g, 0, none⟩) n c (ints (swp zs i j)) := by
  have h1 := (World.ownsRow.stored h i (.int .i64 (nth zs j))).1
  rw [ints_set] at h1
  have h2 := (World.ownsRow.stored h1 j (.int .i64 (nth zs i))).1
  rw [ints_set] at h2
  exact Own.ext h2 (Ext.drew (Ext.refl _))
set_option maxRecDepth 100000 in
set_option maxHeartbeats 3200000 in
theorem insertion_c (base : Nat) (A : Option Addr) (n c g N : Nat) (cb : Array Value) (key : Int → Int) (ds : List Int) (a b : Nat) (w : World) (eg : ∀ args w, (callFunc g args).run Try.prog w = .ok (.enter g args) w)
    (hO : Own w base 3 1 A n c (ints ds)) (ha : a ≤ 1000) (hb : b ≤ n) (hn : n ≤ 1000) (hC : CmpOk g cb key N w (Value.slice A n c).ownBlock) (hN : ∀ i, i < n → 0 ≤ nth ds i ∧ nth ds i < N) (hup : ∀ p q, a ≤ p → p < q → q < b → nth ds p < nth ds q) :
    Calls Try.prog 67 #[.slice A n c, .int .i64 a, .int .i64 b, .func (.func g) #[] cb] w fun e w' => e = .returned (.tuple #[]) ∧ ∃ ds', Srt key ds ds' a b ∧ Own w' base 3 1 A n c (ints ds') ∧ w.grownBy w' (Value.slice A n c).ownBlock := by
  have hl : ds.length = n := by have := hO.len; rw [ints_len] at this; omega
  have mixed : Try.prog.follows .mixedOrders = true := by kernel_rfl
  by_cases hab : a + 1 < b
  · obtain ⟨r, rfl, hr1, hr2⟩ := hO.form (by omega)
    have HC := Lib.hid hC
    have HN := Lib.hid hN
    have HU := Lib.hid hup
    have HO0 := Lib.hid hO
    clear hC hN hup hO
    have ha9 : a ≤ 1000 := by omega
    have hb9 : b ≤ 1000 := by omega
    go_enter Try.func67, Try.ntmps67
    go_wp2
    go_loopw [8] (fun v wr => ∃ (i : Nat) (zs : List Int), (a + 1 ≤ i ∧ i ≤ b) ∧ v = .int .i64 (i : Int) ∧ Hid (Srt key ds zs a i) ∧ Own wr base 3 1 (some ⟨r, 0, none⟩) n c (ints zs) ∧ w.grownBy wr (some r)) (fun v _ => b - (intOf v).toNat)
    case atStart => exact ⟨a + 1, ds, by omega, rfl, Srt.one key ds (by omega), HO0.out, World.grownBy.refl _ _⟩
    case round =>
      clear HO0
      obtain ⟨i, ys, hi, rfl, hS, ho, hg⟩ := hrel
      by_cases hlt : i < b
      · have dk : decide (i < b) = true := decide_eq_true hlt
        have HO := Lib.hid ho
        have HG := Lib.hid hg
        clear ho hg
        go_wp2_with fail
        go_loopw [9] (fun v wq => ∃ (j : Nat) (zs : List Int), (a ≤ j ∧ j ≤ i) ∧ v = .int .i64 (j : Int) ∧ Hid (Ins key ys zs a i j) ∧ Own wq base 3 1 (some ⟨r, 0, none⟩) n c (ints zs) ∧ w.grownBy wq (some r)) (fun v _ => (intOf v).toNat)
        case atStart => exact ⟨i, ys, by omega, rfl, Ins.start hS.out (hS.out.big hlt HU.out), HO.out, HG.out⟩
        case round =>
          clear HO HG
          obtain ⟨j, zs, hj, rfl, hI, ho, hg⟩ := hrel
          by_cases hja : a < j
          · have dj : decide (a < j) = true := decide_eq_true hja
            have hlz : zs.length = n := by have := hI.out.perm.length_eq; have := hS.out.len; omega
            have hsrc : ∀ p, a ≤ p → p ≤ i → 0 ≤ nth zs p ∧ nth zs p < N := fun p h1 h2 => by
              obtain ⟨q, h3, h4, h5⟩ := hI.out.src p h1 h2
              rw [h5]
              rcases Nat.lt_or_ge q i with h6 | h6
              · obtain ⟨t, h7, h8, h9⟩ := hS.out.src q h3 h6
                rw [h9]; exact HN.out t (by omega)
              · rw [hS.out.out q (.inr h6)]; exact HN.out q (by omega)
            have hxb := hsrc j (by omega) (by omega)
            have hyb := hsrc (j - 1) (by omega) (by omega)
            have c0 := World.ownsRow.cellAt ho j (by omega)
            have c1 := World.ownsRow.cellAt ho (j - 1) (by omega)
            rw [ints_get zs j (by omega)] at c0
            rw [ints_get zs (j - 1) (by omega)] at c1
            have HCC := Lib.hid (fun w' (x : Ext wr w') => HC.out w' (grown_ext hg x) (nth zs j) (nth zs (j - 1)) hxb hyb)
            have STEP := Lib.hid (fun hk => hI.out.step (by omega) (by omega) (by omega) hk)
            have STOP := Lib.hid (fun hk => hS.out.more (hI.out.stop (by omega) (by omega) (.inr hk)))
            have HO := Lib.hid ho
            have HG := Lib.hid hg
            clear ho hg hsrc hxb hyb hI
            obtain ⟨x, hx⟩ : ∃ x, x = nth zs j := ⟨_, rfl⟩
            obtain ⟨y, hy⟩ : ∃ y, y = nth zs (j - 1) := ⟨_, rfl⟩
            rw [← hx] at c0 HCC STEP STOP
            rw [← hy] at c1 HCC STEP STOP
            have k0 : (0 : Int) ≤ (j : Int) := by omega
            have k1 : (j : Int) < (n : Int) := by omega
            have km : (0 : Int) ≤ (j : Int) - 1 := by omega
            have km2 : (j : Int) - 1 < (n : Int) := by omega
            have kpos : (0 : Int) < (j : Int) := by omega
            have kw : IntKind.i64.wrap ((j : Int) - 1) = (j : Int) - 1 := IntWalk.i64_in _ (by omega)
            have kt : ((j : Int) - 1).toNat = j - 1 := by omega
            have kn1 : (1 : Int) ≤ (j : Int) := by omega
            have kn2 : (j : Int) ≤ (n : Int) := by omega
            have kn3 : (j : Int) < (n : Int) + 1 := by omega
            have HX := Lib.hid hx
            have HY := Lib.hid hy
            clear hx hy
            by_cases hk : key x < key y
            · have dc : decide (key x - key y < 0) = true := decide_eq_true (by omega)
              have HK := Lib.hid hk
              go_wp2_with fail
              go_region_held3 (fun w' => w'.cell? ⟨r, j, none⟩ = some (.int .i64 x) ∧ w'.cell? ⟨r, j - 1, none⟩ = some (.int .i64 y)) (first | go_keep | exact ⟨c0, c1⟩ | (refine ⟨?_, ?_⟩ <;> assumption)) ((go_at_fn g; refine (HCC.out _ (by (repeat (first | exact Ext.refl _ | assumption | refine Ext.alloc ?_ _ | refine Ext.drew ?_ | refine Ext.drewN ?_ _ | refine Ext.setCell ?_ (by (try simp only [World.size_alloc, World.size_setCell, World.size_drew, World.heap_drewN]); omega) _ | refine Ext.step (by assumption) ?_)))).mono ?_; rintro e w2 ⟨rfl, x2⟩; have c2 := x2.got (Ext.got (w1 := _) (by (repeat (first | exact Ext.refl _ | assumption | refine Ext.alloc ?_ _ | refine Ext.drew ?_ | refine Ext.drewN ?_ _ | refine Ext.setCell ?_ (by (try simp only [World.size_alloc, World.size_setCell, World.size_drew, World.heap_drewN]); omega) _ | refine Ext.step (by assumption) ?_))) c0); have c3 := x2.got (Ext.got (w1 := _) (by (repeat (first | exact Ext.refl _ | assumption | refine Ext.alloc ?_ _ | refine Ext.drew ?_ | refine Ext.drewN ?_ _ | refine Ext.setCell ?_ (by (try simp only [World.size_alloc, World.size_setCell, World.size_drew, World.heap_drewN]); omega) _ | refine Ext.step (by assumption) ?_))) c1)))
              all_goals
                have X2 : Ext wr w2 := by (repeat (first | exact Ext.refl _ | assumption | refine Ext.alloc ?_ _ | refine Ext.drew ?_ | refine Ext.drewN ?_ _ | refine Ext.setCell ?_ (by (try simp only [World.size_alloc, World.size_setCell, World.size_drew, World.heap_drewN]); omega) _ | refine Ext.step (by assumption) ?_))
                have O2 := HO.out.ext X2
                have G2 := Lib.hid (grown_ext HG.out X2)
                have f2 := World.ownsRow.frozenAt O2 j
                have f3 := World.ownsRow.frozenAt O2 (j - 1)
                have O3 := World.ownsRow.stored O2 j (.int .i64 y)
                have c4 := World.ownsRow.cellAt O3.1 (j - 1) (by omega)
                rw [List.getElem?_set_ne (by omega), ints_get zs (j - 1) (by omega), ← HY.out] at c4
                have S2 := own_swp (i := j) (j := j - 1) O2
                rw [← HX.out, ← HY.out] at S2
                have HS2 := Lib.hid S2
                clear O2 O3 S2 HCC X2 x2 STOP
                have GS := Lib.hid (grown_ext (grownBy_set (j := j - 1) (u := .int .i64 x) (grownBy_set (j := j) (u := .int .i64 y) G2.out)) (Ext.drew (Ext.refl _)))
                go_wp2_with fail
                go_big_region_o
                generalize ((w2.setCell ⟨r, j, none⟩ (.int .i64 y)).setCell ⟨r, j - 1, none⟩ (.int .i64 x)).drew = w3 at *
                clear c2 c3 c4 f2 f3 kt
                go_wp2_with fail
                go_roundw
                case rel => exact ⟨j - 1, swp zs j (j - 1), by omega, congrArg (Value.int .i64) (by omega), STEP.out HK.out, HS2.out, GS.out⟩
                case measure => simp [intOf]; omega
            · have dc : decide (key x - key y < 0) = false := decide_eq_false (by omega)
              have HK := Lib.hid (STOP.out hk)
              clear hk STEP STOP
              go_wp2_with fail
              go_region_held3 (fun w' => w'.cell? ⟨r, j, none⟩ = some (.int .i64 x) ∧ w'.cell? ⟨r, j - 1, none⟩ = some (.int .i64 y)) (first | go_keep | exact ⟨c0, c1⟩ | (refine ⟨?_, ?_⟩ <;> assumption)) ((go_at_fn g; refine (HCC.out _ (by (repeat (first | exact Ext.refl _ | assumption | refine Ext.alloc ?_ _ | refine Ext.drew ?_ | refine Ext.drewN ?_ _ | refine Ext.setCell ?_ (by (try simp only [World.size_alloc, World.size_setCell, World.size_drew, World.heap_drewN]); omega) _ | refine Ext.step (by assumption) ?_)))).mono ?_; rintro e w2 ⟨rfl, x2⟩; have c2 := x2.got (Ext.got (w1 := _) (by (repeat (first | exact Ext.refl _ | assumption | refine Ext.alloc ?_ _ | refine Ext.drew ?_ | refine Ext.drewN ?_ _ | refine Ext.setCell ?_ (by (try simp only [World.size_alloc, World.size_setCell, World.size_drew, World.heap_drewN]); omega) _ | refine Ext.step (by assumption) ?_))) c0); have c3 := x2.got (Ext.got (w1 := _) (by (repeat (first | exact Ext.refl _ | assumption | refine Ext.alloc ?_ _ | refine Ext.drew ?_ | refine Ext.drewN ?_ _ | refine Ext.setCell ?_ (by (try simp only [World.size_alloc, World.size_setCell, World.size_drew, World.heap_drewN]); omega) _ | refine Ext.step (by assumption) ?_))) c1)))
              all_goals
                have X2 : Ext wr w2 := by (repeat (first | exact Ext.refl _ | assumption | refine Ext.alloc ?_ _ | refine Ext.drew ?_ | refine Ext.drewN ?_ _ | refine Ext.setCell ?_ (by (try simp only [World.size_alloc, World.size_setCell, World.size_drew, World.heap_drewN]); omega) _ | refine Ext.step (by assumption) ?_))
                have O2 := Lib.hid (HO.out.ext X2)
                have G2 := Lib.hid (grown_ext HG.out X2)
                clear HCC X2 x2 HO HG c2 c3 c0 c1
                go_wp2_with fail
                go_roundw
                case rel => exact ⟨i + 1, zs, by omega, by go_num, HK.out, O2.out, G2.out⟩
                case measure => simp [intOf]; omega
          · obtain rfl : j = a := by omega
            have dj : decide (j < j) = false := decide_eq_false (by omega)
            have HK := Lib.hid (hS.out.more (hI.out.stop (Nat.le_refl _) (by omega) (.inl rfl)))
            have HO := Lib.hid ho
            have HG := Lib.hid hg
            clear ho hg hI
            go_wp2_with fail
            (refine wp_region_after wr (Ext.refl _) (by kernel_rfl) (by kernel_rfl) ?_; (repeat (go_big_quiet_step (fail))); refine wpQuiet_nil ?_; intro _ hw'; obtain ⟨y, hw''⟩ := hw'; subst hw'')
            have O2 := Lib.hid (HO.out.ext y.ext)
            have G2 := Lib.hid (grown_ext HG.out y.ext)
            clear HO HG
            go_wp2_with fail
            go_roundw
            case rel => exact ⟨i + 1, zs, by omega, by go_num, HK.out, O2.out, G2.out⟩
            case measure => simp [intOf]; omega
      · obtain rfl : i = b := by omega
        have dk : decide (i < i) = false := decide_eq_false (by omega)
        have HO := Lib.hid ho
        have HG := Lib.hid hg
        clear ho hg
        go_wp2_with fail
        refine bodyPost_end (v := .tuple #[]) (by simp [results, Try.results67, go_sem]) rfl ?_
        exact ⟨rfl, ys, hS.out, HO.out, HG.out⟩
  · have d0 : decide ((a : Int) + 1 < (b : Int)) = false := decide_eq_false (by omega)
    have d1 : decide (a + 1 < b) = false := decide_eq_false hab
    have HO0 := Lib.hid hO
    have w0 : IntKind.i64.wrap ((a : Int) + 1) = (a : Int) + 1 := IntWalk.i64_in _ (by omega)
    clear hO hC
    go_enter Try.func67, Try.ntmps67
    go_wp2_with fail
    go_loopw [8] (fun v wr => v = .int .i64 ((a : Int) + 1) ∧ wr = w) (fun _ _ => 0)
    case atStart => exact ⟨rfl, rfl⟩
    case round =>
      obtain ⟨rfl, rfl⟩ := hrel
      go_wp2_with fail
      refine bodyPost_end (v := .tuple #[]) (by simp [results, Try.results67, go_sem]) rfl ?_
      exact ⟨rfl, ds, Srt.one key ds (by omega), HO0.out, World.grownBy.refl _ _⟩
end Go.Proofs.Ytbenbjbfmcdedaa
