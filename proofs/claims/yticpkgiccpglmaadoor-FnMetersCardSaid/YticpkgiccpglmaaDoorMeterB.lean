/-
  The contracts of the amounts between readings, of the program and of the reference; their sum.
-/
import Derived.Test.YticpkgiccpglmaaDoorMeterA
namespace Go.Proofs.YticpkgiccpglmaaDoor
open Go.RowKit

def useN (zs : List Int) (i : Nat) : Int := usedF (nth zs i) (nth zs (i + 1))
/-- the first k amounts between readings -/
def usesL (zs : List Int) (k : Nat) : List Int := (List.range k).map (useN zs)
theorem usesL_len (zs : List Int) (k : Nat) : (usesL zs k).length = k := by simp [usesL]
theorem usesL_succ (zs : List Int) (k : Nat) : usesL zs (k + 1) = usesL zs k ++ [useN zs k] := by simp [usesL, List.range_succ]
theorem usesL_nth (zs : List Int) (k i : Nat) (h : i < k) : nth (usesL zs k) i = useN zs i := by simp [nth, usesL, h]
theorem ints_snoc (zs : List Int) (x : Int) : ints zs ++ [Value.int .i64 x] = ints (zs ++ [x]) := by simp [ints]
/-- the readings are in order -/
def medB (zs : List Int) : Bool := inB (zs.length : Int) 1 60 && allB zs 0 99999
theorem medB_at {zs : List Int} (h : medB zs = true) : (1 ≤ zs.length ∧ zs.length ≤ 60) ∧ ∀ i, i < zs.length → inB (nth zs i) 0 99999 = true := by
  simp only [medB, Bool.and_eq_true] at h
  have := inB_yes h.1
  exact ⟨by omega, fun i hi => inB_mk (allB_at h.2 hi)⟩
theorem medB_no1 {zs : List Int} {n : Nat} (hn : zs.length = n) (h : ¬ inB (n : Int) 1 60 = true) : medB zs = false := by subst hn; simp [medB, h]
theorem medB_no2 {zs : List Int} (h : ¬ allB zs 0 99999 = true) : medB zs = false := by simp [medB, h]
def usesF (zs : List Int) : List Int := if medB zs = true then usesL zs (zs.length - 1) else []
theorem usesF_no {zs : List Int} (h : medB zs = false) : usesF zs = [] := if_neg (by simp [h])
theorem usesF_len (zs : List Int) : (usesF zs).length ≤ 59 := by
  unfold usesF
  split
  · rename_i h
    rw [usesL_len]
    have := (medB_at h).1
    omega
  · simp
theorem usesF_nth (zs : List Int) (i : Nat) (h : i < (usesF zs).length) : nth (usesF zs) i = useN zs i := by
  unfold usesF at *
  split at h
  · rename_i h1
    rw [if_pos h1]
    exact usesL_nth _ _ _ (by rwa [usesL_len] at h)
  · simp at h
theorem usesL_step {zs : List Int} {k c base : Nat} {e : TypeId} {A : Option Addr} {w : World} (hk : 1 ≤ k) (h : Own w base e 1 A (k - 1 + 1) c (ints (usesL zs (k - 1)) ++ [Value.int .i64 (usedF (nth zs (k - 1)) (nth zs k))])) :
    Own w base e 1 A (k + 1 - 1) c (ints (usesL zs (k + 1 - 1))) := by
  have e2 : k - 1 + 1 = k := by omega
  rw [ints_snoc, e2] at h
  have e3 : usesL zs k = usesL zs (k - 1) ++ [usedF (nth zs (k - 1)) (nth zs k)] := by
    have := usesL_succ zs (k - 1)
    rw [e2, useN, e2] at this
    exact this
  rw [← e3] at h
  exact h
theorem useN_bd (zs : List Int) (i : Nat) : -1 ≤ useN zs i ∧ useN zs i ≤ 99999 := usedF_bd _ _
set_option maxHeartbeats 800000 in
theorem uses_c (A : Option Addr) (n c : Nat) (zs : List Int) (w : World) (h : Holds w 1 A n c (ints zs)) :
    Calls Tryd.prog 22 #[.slice A n c] w (FreshT 3 1 (usesF zs).length (ints (usesF zs)) [.bool (medB zs)] w) := by
  have hmx : n ≤ 9223372036854775807 := by have := h.2.1; have := h.2.2.1; unfold maxLen at this; omega
  have HL := Lib.hid h.intlen
  by_cases h1 : inB (n : Int) 1 60 = true
  · by_cases h2 : allB zs 0 99999 = true
    · have M : medB zs = true := by simp only [medB, HL.out, h1, h2]; rfl
      have H := Lib.hid (show usesF zs = usesL zs (n - 1) from by rw [usesF, if_pos M, HL.out])
      have Mb := Lib.hid M
      clear M
      obtain ⟨n1, n2⟩ := inB_yes h1
      obtain ⟨b, off, rfl, hb, hc⟩ := h.int (by omega)
      have HC := Lib.hid hc
      clear hc
      go_enter Tryd.func22, Tryd.ntmps22
      go_wp2_with (first | (go_at_call 18; refine (within_c _ _ _ _).mono ?_; rintro e w' ⟨rfl, rfl⟩) | (go_at_call 32; refine (allWithin_c _ _ _ _ _ _ _ h).mono ?_; rintro e w' ⟨rfl, rfl⟩))
      clear h
      go_loopw [4, 5] (fun v i wr => ∃ (k : Nat) (A' : Option Addr) (c' : Nat), (1 ≤ k ∧ k ≤ n) ∧ i = .int .i64 (k : Int) ∧ v = .slice A' (k - 1) c' ∧ Own wr w.heap.size 3 1 A' (k - 1) c' (ints (usesL zs (k - 1))) ∧ Ext w wr) (fun _ i _ => n - (intOf i).toNat)
      case atStart => exact ⟨1, none, 0, by omega, rfl, rfl, Own.nil_ _ _ _ _, Ext.refl _⟩
      case round =>
        obtain ⟨k, A', c', ⟨hk1, hk⟩, rfl, rfl, ho, hx⟩ := hrel
        by_cases hlt : k < n
        · have q0 := hx.got (HC.out (k - 1) (by omega))
          have q1 := hx.got (HC.out k hlt)
          have k0 : (0 : Int) ≤ (k : Int) := by omega
          have k1 : (k : Int) < (n : Int) := by omega
          have km : (0 : Int) ≤ (k : Int) - 1 := by omega
          have km2 : (k : Int) - 1 < (n : Int) := by omega
          have kw : IntKind.i64.wrap ((k : Int) - 1) = (k : Int) - 1 := IntWalk.i64_in _ (by omega)
          have kt : ((k : Int) - 1).toNat = k - 1 := by omega
          have kn1 : (1 : Int) ≤ (k : Int) := by omega
          have kn2 : (k : Int) ≤ (n : Int) := by omega
          have kn3 : (k : Int) < (n : Int) + 1 := by omega
          go_wp2_with fail
          go_region_held3 (fun w' => w'.cell? ⟨b, off + (k - 1), none⟩ = some (.int .i64 (nth zs (k - 1))) ∧ w'.cell? ⟨b, off + k, none⟩ = some (.int .i64 (nth zs k))) (first | go_keep | exact ⟨hx2.got (HC.out (k - 1) (by omega)), hx2.got (HC.out k hlt)⟩)
            (first | (go_at_call 12; refine (used_c _ _ _).mono ?_; rintro e w' ⟨rfl, rfl⟩) | ((refine step_push w (by (repeat (first | exact Ext.refl _ | assumption | refine Ext.alloc ?_ _ | refine Ext.drew ?_ | refine Ext.drewN ?_ _ | refine Ext.setCell ?_ (by (try simp only [World.size_alloc, World.size_setCell, World.size_drew, World.heap_drewN]); omega) _ | refine Ext.step (by assumption) ?_))) (by rfl) _ _ _ (by rfl) 3 (.int .i64 0) 1 8 intInfo Tryd.underlying26 rfl (by omega) _ _ _ _ (by rfl) (Own.ext ho (by (repeat (first | exact Ext.refl _ | assumption | refine Ext.alloc ?_ _ | refine Ext.drew ?_ | refine Ext.drewN ?_ _ | refine Ext.setCell ?_ (by (try simp only [World.size_alloc, World.size_setCell, World.size_drew, World.heap_drewN]); omega) _ | refine Ext.step (by assumption) ?_)))) _ _ _ (by rfl) (by exact heap_last (by first | rfl | simp)) rfl (by simp [Value.oneCell']) (by omega) (by omega) ?_; intro A2 c2 w2 ho2 hx2)))
          have HO := Lib.hid ho2
          clear ho2 ho kt kw
          go_wp2
          go_roundw
          case rel => exact ⟨k + 1, A2, c2, by omega, by go_num, by first | rfl | (rw [show k - 1 + 1 = k + 1 - 1 by omega]), usesL_step hk1 HO.out, hx2⟩
          case measure => simp [intOf]; omega
        · obtain rfl : k = n := by omega
          go_wp2
          go_ret2
          refine ⟨A', c', ?_, ?_, hx⟩
          · rw [H.out, usesL_len, Mb.out]; rfl
          · rw [H.out, usesL_len]; exact ho
    · have H := Lib.hid (medB_no2 h2)
      go_enter Tryd.func22, Tryd.ntmps22
      go_wp2_with (first | (go_at_call 18; refine (within_c _ _ _ _).mono ?_; rintro e w' ⟨rfl, rfl⟩) | (go_at_call 32; refine (allWithin_c _ _ _ _ _ _ _ h).mono ?_; rintro e w' ⟨rfl, rfl⟩))
      go_ret2
      refine ⟨none, 0, ?_, ?_, Ext.refl _⟩
      · rw [usesF_no H.out, H.out]; rfl
      · rw [usesF_no H.out]; exact Own.nil_ _ _ _ _
  · have H := Lib.hid (medB_no1 HL.out h1)
    go_enter Tryd.func22, Tryd.ntmps22
    go_wp2_with (first | (go_at_call 18; refine (within_c _ _ _ _).mono ?_; rintro e w' ⟨rfl, rfl⟩))
    go_ret2
    refine ⟨none, 0, ?_, ?_, Ext.refl _⟩
    · rw [usesF_no H.out, H.out]; rfl
    · rw [usesF_no H.out]; exact Own.nil_ _ _ _ _
end Go.Proofs.YticpkgiccpglmaaDoor
