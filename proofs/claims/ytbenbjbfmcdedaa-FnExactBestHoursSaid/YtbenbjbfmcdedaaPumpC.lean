/-
  The contract of l21Cheapest: the places of the n least, ascending, in a new slice.
-/
import Derived.Test.YtbenbjbfmcdedaaPumpP
import Derived.BigQuiet
namespace Go.Proofs.Ytbenbjbfmcdedaa
open Go.RowKit

theorem boolInfo : (Try.prog.info? 4).map (fun i => (i.zero, i.size, i.bytes)) = some (some (.bool false), 1, 1) := by kernel_rfl
def placesI (ps : List Nat) : List Int := List.map (Nat.cast : Nat → Int) ps
theorem placesI_len (ps : List Nat) : (placesI ps).length = ps.length := by simp [placesI]
theorem placesI_snoc (ps : List Nat) (k : Nat) : ints (placesI ps) ++ [Value.int .i64 (k : Int)] = ints (placesI (ps ++ [k])) := by simp [placesI, ints]
theorem placesI_nth {ps : List Nat} {k : Nat} (h : k < ps.length) : nth (placesI ps) k = ((ps[k] : Nat) : Int) := by simp [nth, placesI, h]
set_option maxRecDepth 100000 in
set_option maxHeartbeats 6400000 in
theorem cheap_c (A : Option Addr) (n c : Nat) (zs : List Int) (q : Nat) (w : World) (h : Holds w 1 A n c (ints zs)) (hn : n ≤ 1000) (hq : q ≤ n) :
    Calls Try.prog 43 #[.slice A n c, .int .i64 q] w (Fresh 3 1 q (ints (placesI (cheapL zs q))) w) := by
  obtain ⟨i0, hi, hz0, hz1, hz2⟩ := info_parts boolInfo
  have HL := Lib.hid h.intlen
  go_enter Try.func43, Try.ntmps43
  go_wp2_with (at_make; refine wpList_make_full _ rfl _ _ _ rfl w.heap.size 4 i0 (.bool false) 1 Try.underlying69 hi hz0 hz1 _ _ _ _ n rfl rfl rfl rfl (by rw [hz2]; omega) (by unfold maxLen; omega) (Nat.le_refl _) ?_; intro w1 hown hgrow)
  have hm1 : Own w1 w.heap.size 4 1 (some ⟨w.heap.size, 0, none⟩) n n (bools (usT zs 0)) := by
    rw [usT_zero, HL.out, show bools (List.replicate n false) = List.replicate n (.bool false) from by simp [bools], ← toList_madeCells_one]
    simpa [Value.cells, Own] using hown
  have hx1 : Ext w w1 := (Ext.refl _).grown hgrow (by simp)
  clear hown hgrow hi hz0 hz1 hz2
  go_loopw [6] (fun i wr => ∃ m : Nat, m ≤ q ∧ i = .int .i64 m ∧ Own wr w.heap.size 4 1 (some ⟨w.heap.size, 0, none⟩) n n (bools (usT zs m)) ∧ Ext w wr) (fun i _ => q - (intOf i).toNat)
  case atStart => exact ⟨0, Nat.zero_le _, rfl, hm1, hx1⟩
  case round =>
    clear hm1 hx1
    obtain ⟨m, hm, rfl, ho, hx⟩ := hrel
    obtain ⟨V, hV⟩ : ∃ V, V = wr := ⟨_, rfl⟩
    subst hV
    by_cases hlt : m < q
    · have dk : decide ((m : Int) < (q : Int)) = true := decide_eq_true (by omega)
      obtain ⟨b, off, hA, hb, hc⟩ := (h.ext hx).int (by omega)
      subst hA
      have HC := Lib.hid hc
      have HO := Lib.hid ho
      have HH := Lib.hid h
      clear hc ho h
      go_wp2
      go_loopw [7, 8] (fun v i wr2 => ∃ (k : Nat) (bb : Int), k ≤ n ∧ i = .int .i64 k ∧ v = .int .i64 bb ∧ Hid (Best zs (usT zs m) k bb) ∧ Ext V wr2) (fun _ i _ => n - (intOf i).toNat)
      case atStart => exact ⟨0, -1, Nat.zero_le _, rfl, rfl, Best.zero _ _, Ext.refl _⟩
      case round =>
        obtain ⟨k, bb, hk, rfl, rfl, HB, hx3⟩ := hrel
        have hbr := HB.out.range
        by_cases hkl : k < n
        · have q1 := hx3.got (HC.out k hkl)
          have u1 := hx3.got ((World.ownsRow.cellAt HO.out k (by omega)).trans (bools_get (usT zs m) k (by rw [usT_len, HL.out]; exact hkl)))
          cases hu : bth (usT zs m) k
          · rw [hu] at u1
            have HU := Lib.hid hu
            clear hu
            by_cases hbb : bb < 0
            · have hb1 : decide (bb < 0) = true := decide_eq_true hbb
              go_wp2
              go_quiet (fail)
              go_wp2
              go_roundw
              case rel => exact ⟨k + 1, k, by omega, by go_num, rfl, HB.out.take HU.out (.inl hbb), hx3.trans (by (repeat (first | exact Ext.refl _ | assumption | refine Ext.alloc ?_ _ | refine Ext.drew ?_ | refine Ext.drewN ?_ _ | refine Ext.setCell ?_ (by (try simp only [World.size_alloc, World.size_setCell, World.size_drew, World.heap_drewN]); omega) _ | refine Ext.step (by assumption) ?_)))⟩
              case measure => simp [intOf]; omega
            · obtain ⟨p, rfl⟩ : ∃ p : Nat, bb = (p : Int) := ⟨bb.toNat, by omega⟩
              have q2 := hx3.got (HC.out p (by omega))
              have hb1 : decide ((p : Int) < 0) = false := decide_eq_false hbb
              cases t : decide (nth zs k < nth zs p)
              · have T := Lib.hid (of_decide_eq_false t)
                go_wp2
                go_quiet (fail)
                go_wp2
                go_roundw
                case rel => exact ⟨k + 1, p, by omega, by go_num, rfl, HB.out.keep (by omega) (by simpa using T.out), hx3.trans (by (repeat (first | exact Ext.refl _ | assumption | refine Ext.alloc ?_ _ | refine Ext.drew ?_ | refine Ext.drewN ?_ _ | refine Ext.setCell ?_ (by (try simp only [World.size_alloc, World.size_setCell, World.size_drew, World.heap_drewN]); omega) _ | refine Ext.step (by assumption) ?_)))⟩
                case measure => simp [intOf]; omega
              · have T := Lib.hid (of_decide_eq_true t)
                go_wp2
                go_quiet (fail)
                go_wp2
                go_roundw
                case rel => exact ⟨k + 1, k, by omega, by go_num, rfl, HB.out.take HU.out (.inr (by simpa using T.out)), hx3.trans (by (repeat (first | exact Ext.refl _ | assumption | refine Ext.alloc ?_ _ | refine Ext.drew ?_ | refine Ext.drewN ?_ _ | refine Ext.setCell ?_ (by (try simp only [World.size_alloc, World.size_setCell, World.size_drew, World.heap_drewN]); omega) _ | refine Ext.step (by assumption) ?_)))⟩
                case measure => simp [intOf]; omega
          · rw [hu] at u1
            have HU := Lib.hid hu
            clear hu
            go_wp2
            go_quiet (fail)
            go_wp2
            go_roundw
            case rel => exact ⟨k + 1, bb, by omega, by go_num, rfl, HB.out.skip HU.out, hx3.trans (by (repeat (first | exact Ext.refl _ | assumption | refine Ext.alloc ?_ _ | refine Ext.drew ?_ | refine Ext.drewN ?_ _ | refine Ext.setCell ?_ (by (try simp only [World.size_alloc, World.size_setCell, World.size_drew, World.heap_drewN]); omega) _ | refine Ext.step (by assumption) ?_)))⟩
            case measure => simp [intOf]; omega
        · obtain rfl : k = n := by omega
          have hmz : m < zs.length := by rw [HL.out]; omega
          have HE := Lib.hid (Best.done hmz (by rw [HL.out]; exact HB.out))
          obtain rfl := HE.out
          have hod := od_lt hmz
          rw [HL.out] at hod
          have HO3 := HO.out.ext hx3
          have ust := (World.ownsRow.cellAt HO3 (od zs m) (by omega)).trans (bools_get (usT zs m) (od zs m) (by rw [usT_len, HL.out]; omega))
          have ufz := World.ownsRow.frozenAt HO3 (od zs m)
          have hs := (World.ownsRow.stored HO3 (od zs m) (.bool true)).1
          rw [bools_set, usT_succ hmz] at hs
          have HS := Lib.hid hs
          clear hs HO3
          go_wp2
          go_roundw
          case rel => exact ⟨m + 1, by omega, by go_num, HS.out, (hx.trans hx3).setCell (Nat.le_refl _) _⟩
          case measure => simp [intOf]; omega
    · obtain rfl : m = q := by omega
      have HO := Lib.hid ho
      clear ho
      go_wp2
      have hb0 := Own.lit (w := V.alloc (.cells #[] 3)) (base := V.heap.size) (e := 3) (k := 1) (n := 0) (cs := #[]) (heap_alloc_new _ _) (Nat.zero_le _) rfl
      have hxa : Ext V (V.alloc (.cells #[] 3)) := by (repeat (first | exact Ext.refl _ | assumption | refine Ext.alloc ?_ _ | refine Ext.drew ?_ | refine Ext.drewN ?_ _ | refine Ext.setCell ?_ (by (try simp only [World.size_alloc, World.size_setCell, World.size_drew, World.heap_drewN]); omega) _ | refine Ext.step (by assumption) ?_))
      go_loopw [9, 10] (fun v i wr2 => ∃ (k : Nat) (A' : Option Addr) (c' : Nat), k ≤ n ∧ i = .int .i64 k ∧ v = .slice A' (picks (usT zs m) k).length c' ∧ Own wr2 V.heap.size 3 1 A' (picks (usT zs m) k).length c' (ints (placesI (picks (usT zs m) k))) ∧ Ext V wr2) (fun _ i _ => n - (intOf i).toNat)
      case atStart => exact ⟨0, _, 0, Nat.zero_le _, rfl, rfl, hb0, hxa⟩
      case round =>
        clear hb0 hxa
        obtain ⟨k, A', c', hk, rfl, rfl, ho, hx2⟩ := hrel
        have hpl := picks_len (usT zs m) k
        by_cases hkl : k < n
        · have u1 := hx2.got ((World.ownsRow.cellAt HO.out k (by omega)).trans (bools_get (usT zs m) k (by rw [usT_len, HL.out]; exact hkl)))
          cases hu : bth (usT zs m) k
          · rw [hu] at u1
            have ho' : Own wr V.heap.size 3 1 A' (picks (usT zs m) (k + 1)).length c' (ints (placesI (picks (usT zs m) (k + 1)))) := by rw [picks_no hu]; exact ho
            have HO' := Lib.hid ho'
            have hz : (picks (usT zs m) k).length = (picks (usT zs m) (k + 1)).length := by rw [picks_no hu]
            clear ho' ho hu
            go_wp2
            go_roundw
            case rel => exact ⟨k + 1, _, _, by omega, by go_num, by rw [hz], HO'.out, hx2⟩
            case measure => simp [intOf]; omega
          · rw [hu] at u1
            have hz : (picks (usT zs m) (k + 1)).length = (picks (usT zs m) k).length + 1 := by rw [picks_yes hu]; simp
            have HZ := Lib.hid (show ints (placesI (picks (usT zs m) k)) ++ [Value.int .i64 (k : Int)] = ints (placesI (picks (usT zs m) (k + 1))) from by rw [picks_yes hu]; exact placesI_snoc _ _)
            have HZL := Lib.hid hz
            clear hu hz
            go_wp2_with ((at_builtin; refine wpList_push V (by (repeat (first | exact Ext.refl _ | assumption | refine Ext.alloc ?_ _ | refine Ext.drew ?_ | refine Ext.drewN ?_ _ | refine Ext.setCell ?_ (by (try simp only [World.size_alloc, World.size_setCell, World.size_drew, World.heap_drewN]); omega) _ | refine Ext.step (by assumption) ?_))) rfl _ _ _ rfl 3 (.int .i64 0) 1 8 intInfo Try.underlying32 rfl (by omega) _ _ _ _ rfl (Own.ext ho (by (repeat (first | exact Ext.refl _ | assumption | refine Ext.alloc ?_ _ | refine Ext.drew ?_ | refine Ext.drewN ?_ _ | refine Ext.setCell ?_ (by (try simp only [World.size_alloc, World.size_setCell, World.size_drew, World.heap_drewN]); omega) _ | refine Ext.step (by assumption) ?_)))) _ _ _ rfl (by exact heap_last (by first | rfl | simp)) rfl (by simp [Value.oneCell']) (by omega) (by omega) ?_; intro A2 c2 w2 ho2 hx2); (have HO2 := Lib.hid (show Own w2 V.heap.size 3 1 A2 (picks (usT zs m) (k + 1)).length c2 (ints (placesI (picks (usT zs m) (k + 1)))) from by rw [← HZ.out, HZL.out]; exact ho2)); clear ho2 ho)
            go_roundw
            case rel => exact ⟨k + 1, _, _, by omega, by go_num, by rw [HZL.out], HO2.out, hx2⟩
            case measure => simp [intOf]; omega
        · obtain rfl : k = n := by omega
          have hz : (picks (usT zs m) k).length = m := by have := cheapL_len (zs := zs) (n := m) (by rw [HL.out]; exact hq); rw [cheapL, HL.out] at this; exact this
          have he : cheapL zs m = picks (usT zs m) k := by rw [cheapL, HL.out]
          rw [hz] at ho ⊢
          rw [← he] at ho
          go_wp2
          go_ret
          exact ⟨A', c', rfl, ho.mono hx.len, hx.trans hx2⟩
end Go.Proofs.Ytbenbjbfmcdedaa
