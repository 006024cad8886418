/-
  Pump as an element of slices: its cells; the contracts of the law package's small functions on it (a size, a copy, a comparison, marks).
-/
import Derived.Test.YtbenbjbfmcdedaaInts
namespace Go.Proofs.Ytbenbjbfmcdedaa
open Go.RowKit

structure Pump where
  f0 : Int
  f1 : Int
instance : Inhabited Pump := ⟨⟨0, 0⟩⟩
namespace Pump
def cells (e : Pump) : List Value := [.int .i64 e.f0, .int .i64 e.f1]
abbrev val (e : Pump) : Value := .agg #[.int .i64 e.f0, .int .i64 e.f1]
abbrev obj (e : Pump) (ty : TypeId) : Obj := .cells #[.int .i64 e.f0, .int .i64 e.f1] ty
def all (es : List Pump) : List Value := es.flatMap cells
def at_ (es : List Pump) (i : Nat) : Pump := es.getD i default
theorem all_len (es : List Pump) : (all es).length = es.length * 2 := by
  induction es with
  | nil => rfl
  | cons e es ih => simp only [all, List.flatMap_cons, List.length_append, List.length_cons] at ih ⊢; rw [ih]; simp [cells]; omega
theorem all_get (es : List Pump) : ∀ i j, i < es.length → j < 2 → (all es)[i * 2 + j]? = (at_ es i).cells[j]? := by
  induction es with
  | nil => intro i j h; simp at h
  | cons e es ih =>
    intro i j hi hj
    have hc : (cells e).length = 2 := rfl
    cases i with
    | zero =>
      rw [Nat.zero_mul, Nat.zero_add]
      show (cells e ++ es.flatMap cells)[j]? = _
      rw [List.getElem?_append_left (by omega)]
      rfl
    | succ i =>
      show (cells e ++ es.flatMap cells)[(i + 1) * 2 + j]? = _
      rw [List.getElem?_append_right (by omega), show (i + 1) * 2 + j - (cells e).length = i * 2 + j by omega]
      exact ih i j (by simpa using hi) hj
end Pump
section
variable {w : World} {A : Option Addr} {n c : Nat} {es : List Pump}
theorem Pump.len (h : Holds w 2 A n c (Pump.all es)) : es.length = n := by
  have := h.1; rw [Pump.all_len] at this; omega
theorem Pump.where_ (h : Holds w 2 A n c (Pump.all es)) (hn : 0 < n) :
    ∃ b off, A = some ⟨b, off, none⟩ ∧ b < w.heap.size ∧ ∀ i, i < n → w.cell? ⟨b, off + i * 2, none⟩ = some (.int .i64 (Pump.at_ es i).f0) ∧ w.cell? ⟨b, off + i * 2 + 1, none⟩ = some (.int .i64 (Pump.at_ es i).f1) := by
  have hl := Pump.len h
  obtain ⟨b, off, hA, hb, hc⟩ := h.2.2.2 (by rw [Pump.all_len]; omega)
  refine ⟨b, off, hA, hb, fun i hi => ⟨?_, ?_⟩⟩
  · have := hc (i * 2 + 0) _ (Pump.all_get es i 0 (by omega) (by omega)); simpa [Nat.add_assoc] using this
  · have := hc (i * 2 + 1) _ (Pump.all_get es i 1 (by omega) (by omega)); simpa [Nat.add_assoc] using this
end

theorem sz_c (A : Option Addr) (n c : Nat) (w : World) (hn : n ≤ 9223372036854775807) (m : Int) (hm : m = 1048576) :
    Calls Try.prog 25 #[.slice A n c, .int .i64 m] w fun e w' => e = .returned (.int .i64 (if n ≤ 1048576 then 1048576 - (n : Int) else -1)) ∧ w = w' := by
  subst hm
  by_cases h : n ≤ 1048576
  · go_enter Try.func25, Try.ntmps25
    go_wp2
    go_ret
    exact ⟨by simp, rfl⟩
  · go_enter Try.func25, Try.ntmps25
    go_wp2
    go_ret
    exact ⟨by simp, rfl⟩
theorem to_c (e : Pump) (w : World) : Calls Try.prog 11 #[e.val] w fun en w' => en = .returned e.val ∧ w' = ((w.alloc (e.obj 23)).alloc (e.obj 25)).alloc (e.obj 25) := by
  obtain ⟨f0, f1⟩ := e
  go_enter Try.func11, Try.ntmps11
  go_wp2
  go_returns
  exact ⟨rfl, rfl⟩
theorem eq_a (e : Pump) (w : World) : Calls Try.prog 47 #[e.val, e.val] w (Ans (.bool true) w) := by
  obtain ⟨f0, f1⟩ := e
  go_enter Try.func47, Try.ntmps47
  go_wp2
  all_goals (go_ret; exact ⟨rfl, by (repeat (first | exact Ext.refl _ | assumption | refine Ext.alloc ?_ _ | refine Ext.drew ?_ | refine Ext.drewN ?_ _ | refine Ext.setCell ?_ (by (try simp only [World.size_alloc, World.size_setCell, World.size_drew, World.heap_drewN]); omega) _ | refine Ext.step (by assumption) ?_))⟩)
theorem elInfo : (Try.prog.info? 25).map (fun i => (i.zero, i.size, i.bytes)) = some (some (.agg #[.int .i64 0, .int .i64 0]), 2, 16) := by kernel_rfl
theorem zeros_len (n : Nat) : (madeCells #[.int .i64 0, .int .i64 0] (n * 2)).toList.length = n * 2 := by simp [madeCells]
/-- a copy of the slice -/
theorem toS_c (A : Option Addr) (n c : Nat) (es : List Pump) (w : World) (h : Holds w 2 A n c (Pump.all es)) (hn : n ≤ 1048576) :
    Calls Try.prog 27 #[.slice A n c] w (Fresh 25 2 n (Pump.all es) w) := by
  obtain ⟨i0, hi, hz0, hz1, hz2⟩ := info_parts elInfo
  have HL := Lib.hid (Pump.len h)
  go_enter Try.func27, Try.ntmps27
  go_wp2_with (at_make; refine wpList_make_full _ rfl _ _ _ rfl w.heap.size 25 i0 (.agg #[.int .i64 0, .int .i64 0]) 2 Try.underlying42 hi hz0 hz1 _ _ _ _ n rfl rfl rfl rfl (by rw [hz2]; omega) (by unfold maxLen; omega) (Nat.le_refl _) ?_; intro w1 hown hgrow)
  have hm1 : w1.ownsRow w.heap.size 25 2 (.slice (some ⟨w.heap.size, 0, none⟩) n n) n (mixed (Pump.all es) (madeCells #[.int .i64 0, .int .i64 0] (n * 2)).toList 0) := by
    rw [mixed_zero]
    simpa [Value.cells] using hown
  have hx1 : Ext w w1 := (Ext.refl _).grown hgrow (by simp)
  clear hown hgrow
  have ZL := Lib.hid (zeros_len n)
  obtain ⟨Z, hZ⟩ : ∃ Z, Z = (madeCells #[.int .i64 0, .int .i64 0] (n * 2)).toList := ⟨_, rfl⟩
  rw [← hZ] at hm1 ZL
  clear hZ
  go_loopw [4] (fun i wr => ∃ k : Nat, k ≤ n ∧ i = .int .i64 k ∧ wr.ownsRow w.heap.size 25 2 (.slice (some ⟨w.heap.size, 0, none⟩) n n) n (mixed (Pump.all es) Z (k * 2)) ∧ Ext w wr) (fun i _ => n - (intOf i).toNat)
  case atStart => exact ⟨0, Nat.zero_le _, rfl, by simpa using hm1, hx1⟩
  case round =>
    clear hm1 hx1
    obtain ⟨k, hk, rfl, hown, hx⟩ := hrel
    by_cases hlt : k < n
    · obtain ⟨b, off, rfl, hb, hc⟩ := Pump.where_ h (by omega)
      obtain ⟨d0, d1⟩ := hc k hlt
      replace d0 := hx.got d0
      replace d1 := hx.got d1
      clear hc h
      go_wp2_with fail
      refine (to_c (Pump.at_ es k) _).mono ?_
      rintro e w2 ⟨rfl, hw2⟩
      have hx2 : Ext wr w2 := by subst hw2; (repeat (first | exact Ext.refl _ | assumption | refine Ext.alloc ?_ _ | refine Ext.drew ?_ | refine Ext.drewN ?_ _ | refine Ext.setCell ?_ (by (try simp only [World.size_alloc, World.size_setCell, World.size_drew, World.heap_drewN]); omega) _ | refine Ext.step (by assumption) ?_))
      clear hw2
      have hown2 := Own.ext hown hx2
      obtain ⟨HO⟩ : Nonempty (Hid (w2.ownsRow w.heap.size 25 2 (.slice (some ⟨w.heap.size, 0, none⟩) n n) n (mixed (Pump.all es) Z (k * 2)))) := ⟨hown2⟩
      have hu : ∀ j, j < 2 → ∃ u, w2.cell? ⟨w.heap.size, k * 2 + j, none⟩ = some u := fun j hj => by
        rw [World.ownsRow.cellAt HO.out (k * 2 + j) (by omega)]
        exact ⟨_, List.getElem?_eq_getElem (by rw [mixed_len _ _ (n * 2) _ (by rw [Pump.all_len, HL.out]) ZL.out (by omega)]; omega)⟩
      obtain ⟨u0, hu0⟩ := hu 0 (by omega)
      have hf0 := World.ownsRow.frozenAt HO.out (k * 2)
      obtain ⟨u1, hu1⟩ := hu 1 (by omega)
      have hf1 := World.ownsRow.frozenAt HO.out (k * 2 + 1)
      simp only [Nat.add_zero] at hu0
      have hs0 := (World.ownsRow.stored HO.out (k * 2) (.int .i64 (Pump.at_ es k).f0)).1
      have hs1 := (World.ownsRow.stored hs0 (k * 2 + 1) (.int .i64 (Pump.at_ es k).f1)).1
      have hg := Pump.all_get es k
      rw [mixed_set _ _ _ (n * 2) (k * 2) (by rw [Pump.all_len, HL.out]) ZL.out (by omega) (by have := hg 0 (by rw [HL.out]; exact hlt) (by omega); simpa [Pump.cells] using this)] at hs0 hs1
      rw [mixed_set _ _ _ (n * 2) (k * 2 + 1) (by rw [Pump.all_len, HL.out]) ZL.out (by omega) (by have := hg 1 (by rw [HL.out]; exact hlt) (by omega); simpa [Pump.cells] using this)] at hs1
      have HS := Lib.hid hs1
      clear hs0 hs1 hg hown hown2 hu
      go_wp2
      go_roundw
      case rel => exact ⟨k + 1, by omega, by go_num, by have := HS.out; rwa [show (k + 1) * 2 = k * 2 + 1 + 1 from by omega], (((hx.trans hx2).setCell (Nat.le_refl _) _).setCell (Nat.le_refl _) _)⟩
      case measure => simp [intOf]; omega
    · obtain rfl : k = n := by omega
      rw [mixed_all _ _ (k * 2) (by rw [Pump.all_len, HL.out]) ZL.out] at hown
      go_wp2
      go_ret
      exact ⟨_, _, rfl, hown, hx⟩
/-- two slices that hold the same are found the same -/
theorem eqS_c (A B : Option Addr) (n c m d : Nat) (es : List Pump) (w : World) (h : Holds w 2 A n c (Pump.all es)) (h' : Holds w 2 B m d (Pump.all es)) :
    Calls Try.prog 29 #[.slice A n c, .slice B m d] w (Ans (.bool true) w) := by
  have hm : n ≤ 9223372036854775807 := by have := h.2.1; have := h.2.2.1; unfold maxLen at this; omega
  obtain rfl : n = m := by rw [← Pump.len h, ← Pump.len h']
  go_enter Try.func29, Try.ntmps29
  go_wp2
  go_loopw [5] (fun i wr => ∃ k : Nat, k ≤ n ∧ i = .int .i64 k ∧ Ext w wr) (fun i _ => n - (intOf i).toNat)
  case atStart => exact ⟨0, Nat.zero_le _, rfl, Ext.refl _⟩
  case round =>
    obtain ⟨k, hk, rfl, hx⟩ := hrel
    by_cases hlt : k < n
    · obtain ⟨b, off, rfl, hb, hc⟩ := Pump.where_ h (by omega)
      obtain ⟨b', off', rfl, hb', hc'⟩ := Pump.where_ h' (by omega)
      obtain ⟨d0, d1⟩ := hc k hlt
      obtain ⟨e0, e1⟩ := hc' k hlt
      have p0 := After.got (w := wr) (hx.got d0)
      have q0 := After.got (w := wr) (hx.got e0)
      have p1 := After.got (w := wr) (hx.got d1)
      have q1 := After.got (w := wr) (hx.got e1)
      clear hc hc' h h' d0 d1 e0 e1
      have k0 : (0 : Int) ≤ (k : Int) := by omega
      have k1 : (k : Int) < (n : Int) := by omega
      go_wp2_with fail
      (refine wp_region_after wr (Ext.refl _) (by kernel_rfl) (by kernel_rfl) ?_; (repeat (go_big_quiet_step ((go_at_call 47; exact after_call (eq_a (Pump.at_ es k) _))))); refine wpQuiet_nil ?_; intro _ hw'; obtain ⟨y, hw''⟩ := hw'; subst hw'')
      go_wp2
      go_roundw
      case rel => exact ⟨k + 1, by omega, by go_num, hx.trans y.ext⟩
      case measure => simp [intOf]; omega
    · go_wp2
      go_ret
      exact ⟨rfl, hx⟩
def mcell (k : Int) (j : Nat) : Value := .int .i64 (k + (j : Int))
def marksV (k : Int) (m : Nat) : List Value := (List.range m).map (mcell k)
theorem marksV_len (k : Int) (m : Nat) : (marksV k m).length = m := by simp [marksV]
theorem marksV_get (k : Int) (m j : Nat) (h : j < m) : (marksV k m)[j]? = some (mcell k j) := by simp [marksV, h]
theorem markS_c (base : Nat) (A : Option Addr) (n c : Nat) (xs : List Value) (k : Int) (w : World) (h : Own w base 25 2 A n c xs) (hk : 0 ≤ k) (hn : k + n * 2 ≤ 1000000000) :
    Calls Try.prog 30 #[.slice A n c, .int .i64 k] w (Marked base 25 2 A n c (marksV k (n * 2)) (k + n * 2) w) := by
  have HX := Lib.hid h.len
  go_enter Try.func30, Try.ntmps30
  go_wp2
  go_loopw [1, 5] (fun v i wr => ∃ j : Nat, j ≤ n ∧ i = .int .i64 j ∧ v = .int .i64 (k + (j : Int) * 2) ∧ Own wr base 25 2 A n c (mixed (marksV k (n * 2)) xs (j * 2)) ∧ w.grownBy wr (Value.slice A n c).ownBlock) (fun _ i _ => n - (intOf i).toNat)
  case atStart => exact ⟨0, Nat.zero_le _, rfl, by simp, by rw [Nat.zero_mul, mixed_zero]; exact h, World.grownBy.refl _ _⟩
  case round =>
    obtain ⟨j, hj, rfl, rfl, hown, hg⟩ := hrel
    by_cases hlt : j < n
    · obtain ⟨g, rfl, hg1, hg2⟩ := hown.form (by omega)
      have HO := Lib.hid hown
      have hu : ∀ i, i < 2 → ∃ u, wr.cell? ⟨g, j * 2 + i, none⟩ = some u := fun i hi => by
        rw [World.ownsRow.cellAt HO.out (j * 2 + i) (by omega)]
        exact ⟨_, List.getElem?_eq_getElem (by rw [mixed_len _ _ (n * 2) _ (by rw [marksV_len]) HX.out (by omega)]; omega)⟩
      obtain ⟨u0, hu0⟩ := hu 0 (by omega)
      have hf0 := World.ownsRow.frozenAt HO.out (j * 2)
      obtain ⟨u1, hu1⟩ := hu 1 (by omega)
      have hf1 := World.ownsRow.frozenAt HO.out (j * 2 + 1)
      simp only [Nat.add_zero] at hu0
      have hs0 := (World.ownsRow.stored HO.out (j * 2) (.int .i64 (k + (j : Int) * 2))).1
      have hs1 := (World.ownsRow.stored hs0 (j * 2 + 1) (.int .i64 (k + (j : Int) * 2 + 1))).1
      rw [mixed_set _ _ _ (n * 2) (j * 2) (by rw [marksV_len]) HX.out (by omega) (by rw [marksV_get _ _ _ (by omega), mcell]; exact congrArg some (congrArg (Value.int .i64) (by push_cast; omega)))] at hs0 hs1
      rw [mixed_set _ _ _ (n * 2) (j * 2 + 1) (by rw [marksV_len]) HX.out (by omega) (by rw [marksV_get _ _ _ (by omega), mcell]; exact congrArg some (congrArg (Value.int .i64) (by push_cast; omega)))] at hs1
      have HS := Lib.hid hs1
      have Hg := Lib.hid hg
      clear hs0 hs1 h hown hg hu
      go_wp2
      go_roundw
      case rel => exact ⟨j + 1, by omega, by go_num, by go_num, by have := HS.out; rwa [show (j + 1) * 2 = j * 2 + 1 + 1 from by omega], (grownBy_set (grownBy_set Hg.out))⟩
      case measure => simp [intOf]; omega
    · obtain rfl : j = n := by omega
      rw [mixed_all _ _ (j * 2) (by rw [marksV_len]) HX.out] at hown
      go_wp2
      go_ret
      exact ⟨rfl, hown, hg⟩
end Go.Proofs.Ytbenbjbfmcdedaa
