/-
  The contract of DrinkOldest, of the program and of the reference.
-/
import Derived.Test.YtecifmpkjegodaaAgeB
import Derived.Test.YtecifmpkjegodaaSetBatch
namespace Go.Proofs.Ytecifmpkjegodaa
open Go.RowKit

/-- what is still wanted behind k batches -/
def restF (es : List Batch) (l : Int) : Nat → Int
  | 0 => l
  | k + 1 => restF es l k - min (restF es l k) (lit es k)
def daysF (es : List Batch) (l : Int) : Nat → Int
  | 0 => 0
  | k + 1 => daysF es l k + min (restF es l k) (lit es k) * day es k
def leftL (es : List Batch) (l : Int) : Nat → List Batch
  | 0 => []
  | k + 1 => if 0 < lit es k - min (restF es l k) (lit es k) then leftL es l k ++ [⟨day es k, lit es k - min (restF es l k) (lit es k)⟩] else leftL es l k
theorem leftL_len (es : List Batch) (l : Int) (k : Nat) : (leftL es l k).length ≤ k := by
  induction k with
  | zero => simp [leftL]
  | succ k ih => rw [leftL]; split <;> (try simp only [List.length_append, List.length_cons, List.length_nil]) <;> omega
theorem restF_eq {es : List Batch} {l : Int} (hl : 0 ≤ l) (h : batB es = true) (k : Nat) (hk : k ≤ es.length) : restF es l k = max 0 (l - sumL (lit es) k) ∧ 0 ≤ restF es l k ∧ restF es l k ≤ l := by
  induction k with
  | zero => simp only [restF, sumL]; omega
  | succ k ih =>
    have h1 := ih (by omega)
    have h2 := lit_bd h k (by omega)
    simp only [restF, sumL]
    omega
theorem daysF_bd {es : List Batch} {l : Int} (hl : 0 ≤ l) (h : batB es = true) (k : Nat) (hk : k ≤ es.length) : 0 ≤ daysF es l k ∧ daysF es l k ≤ k * 100000000 := by
  induction k with
  | zero => simp [daysF]
  | succ k ih =>
    have h1 := ih (by omega)
    have h2 := lit_bd h k (by omega)
    have h3 := day_bd h k (by omega)
    have h4 := (restF_eq hl h k (by omega)).2
    have m0 : 0 ≤ min (restF es l k) (lit es k) := by omega
    have m1 : min (restF es l k) (lit es k) ≤ 100000 := by omega
    have p0 := Int.mul_nonneg m0 h3.1
    have p1 := Int.mul_le_mul m1 h3.2 h3.1 (by omega)
    simp only [daysF]
    omega
open Classical in
/-- what DrinkOldest answers -/
noncomputable def drinkF (es : List Batch) (l : Int) : List Batch × Int × Bool := if batB es = true ∧ 0 ≤ l ∧ restF es l es.length = 0 then (leftL es l es.length, daysF es l es.length, true) else (es, 0, false)
theorem drinkF_no {es : List Batch} {l : Int} (h : ¬ (batB es = true ∧ 0 ≤ l ∧ restF es l es.length = 0)) : drinkF es l = (es, 0, false) := if_neg h
theorem drinkF_yes {es : List Batch} {l : Int} (h : batB es = true ∧ 0 ≤ l ∧ restF es l es.length = 0) : drinkF es l = (leftL es l es.length, daysF es l es.length, true) := if_pos h
theorem drinkF_len (es : List Batch) (l : Int) : (drinkF es l).1.length ≤ es.length := by
  unfold drinkF
  split
  · exact leftL_len _ _ _
  · exact Nat.le_refl _
theorem prod_bd {m d : Int} (h1 : 0 ≤ m ∧ m ≤ 100000) (h2 : 0 ≤ d ∧ d ≤ 1000) : 0 ≤ m * d ∧ m * d ≤ 100000000 := by
  have p0 := Int.mul_nonneg h1.1 h2.1
  have p1 := Int.mul_le_mul h1.2 h2.2 h2.1 (by omega)
  omega
set_option maxHeartbeats 3200000 in
theorem drink_c (A : Option Addr) (n c : Nat) (es : List Batch) (l : Int) (w : World) (h : Holds w 2 A n c (Batch.all es)) (hn : n ≤ 1048576) (hlm : l ≤ 9223372036854775807) :
    Calls Try.prog 26 #[.slice A n c, .int .i64 l] w (FreshT 42 2 (drinkF es l).1.length (Batch.all (drinkF es l).1) [.int .i64 (drinkF es l).2.1, .bool (drinkF es l).2.2] w) := by
  have HL := Lib.hid (Batch.len h)
  by_cases h1 : batB es = true
  · by_cases hl0 : 0 ≤ l
    · have n40 : n ≤ 40 := by have := (batB_at h1).1; rw [HL.out] at this; exact this
      have HS := Lib.hid h
      go_enter Try.func26, Try.ntmps26
      go_wp2_with (at_builtin; refine wpList_cat w (Ext.refl _) rfl _ _ _ rfl 42 (.agg #[.int .i64 0, .int .i64 0]) 2 16 elInfo Try.underlying25 rfl (by omega) none 0 0 [] rfl (Own.nil_ _ _ _ _) _ _ _ _ rfl (h) (Batch.all_one es) (by omega) (by omega) ?_; intro A2 c2 w2 ho2 hx2; simp only [Nat.zero_add, List.nil_append] at ho2)
      go_wp2_with fail
      refine (batchesOk_c _ _ _ es _ (h.ext hx2)).mono ?_; rintro e w3 ⟨rfl, hx3⟩
      have H2 := Lib.hid ho2
      clear ho2 h
      go_wp2
      go_loopw [1, 8, 9, 25] (fun ll o dd i wr => ∃ (k : Nat) (r : Int) (A' : Option Addr) (c' : Nat), k ≤ n ∧ i = .int .i64 k ∧ ll = .int .i64 r ∧ Hid (r = restF es l k) ∧ (0 ≤ r ∧ r ≤ l) ∧ dd = .int .i64 (daysF es l k) ∧ o = .slice A' (leftL es l k).length c' ∧ Own wr w3.heap.size 42 2 A' (leftL es l k).length c' (Batch.all (leftL es l k)) ∧ Ext w3 wr) (fun _ _ _ i _ => n - (intOf i).toNat)
      case atStart => exact ⟨0, l, none, 0, Nat.zero_le _, rfl, rfl, rfl, by omega, rfl, rfl, Own.nil_ _ _ _ _, Ext.refl _⟩
      case round =>
        obtain ⟨k, r, A', c', hk, rfl, rfl, HR, hr, rfl, rfl, ho, hx⟩ := hrel
        by_cases hlt : k < n
        · obtain ⟨b, off, hA, hb, hc⟩ := Batch.where_ (HS.out.ext ((hx2.trans hx3).trans hx)) (by omega)
          subst hA
          obtain ⟨d0, d1⟩ := hc k hlt
          clear hc
          have b1 := lit_bd h1 k (by rw [HL.out]; exact hlt)
          have b2 := day_bd h1 k (by rw [HL.out]; exact hlt)
          have b3 := daysF_bd hl0 h1 k (by rw [HL.out]; exact hk)
          have hq := leftL_len es l k
          obtain ⟨x, hxx⟩ : ∃ x, x = lit es k := ⟨_, rfl⟩
          obtain ⟨dd, hdd⟩ : ∃ d, d = day es k := ⟨_, rfl⟩
          have d1' : wr.cell? ⟨b, off + k * 2 + 1, none⟩ = some (.int .i64 x) := by rw [hxx]; exact d1
          have d0' : wr.cell? ⟨b, off + k * 2, none⟩ = some (.int .i64 dd) := by rw [hdd]; exact d0
          rw [← hxx] at b1
          rw [← hdd] at b2
          have HX := Lib.hid hxx
          have HD := Lib.hid hdd
          clear hxx hdd d0 d1
          have b4 := prod_bd (m := min r x) ⟨by omega, by omega⟩ b2
          have j0 : (0 : Int) ≤ (k : Int) := by omega
          have j1 : (k : Int) < (n : Int) := by omega
          by_cases f : 0 < x - min r x
          · have e1 : leftL es l (k + 1) = leftL es l k ++ [⟨dd, x - min r x⟩] := by rw [leftL, ← HR.out, ← HX.out, ← HD.out, if_pos (by omega)]
            have E1 := Lib.hid e1
            have L1 := Lib.hid (show (leftL es l (k + 1)).length = (leftL es l k).length + 1 by rw [e1]; simp)
            clear e1
            go_wp2_with (at_builtin; refine wpList_push w3 (by (repeat (first | exact Ext.refl _ | assumption | refine Ext.alloc ?_ _ | refine Ext.drew ?_ | refine Ext.drewN ?_ _ | refine Ext.setCell ?_ (by (try simp only [World.size_alloc, World.size_setCell, World.size_drew, World.heap_drewN]); omega) _ | refine Ext.step (by assumption) ?_))) rfl _ _ _ rfl 42 (.agg #[.int .i64 0, .int .i64 0]) 2 16 elInfo Try.underlying25 rfl (by omega) _ _ _ _ rfl (Own.ext ho (by (repeat (first | exact Ext.refl _ | assumption | refine Ext.alloc ?_ _ | refine Ext.drew ?_ | refine Ext.drewN ?_ _ | refine Ext.setCell ?_ (by (try simp only [World.size_alloc, World.size_setCell, World.size_drew, World.heap_drewN]); omega) _ | refine Ext.step (by assumption) ?_)))) _ _ _ rfl (by exact heap_last (by first | rfl | simp)) rfl (by simp [Value.oneCell']) (by omega) (by omega) ?_; intro AP cP wP hoP hxP)
            have HP := Lib.hid hoP
            clear hoP ho
            go_wp2
            go_roundw
            case rel => exact ⟨k + 1, r - min r x, AP, cP, by omega, by go_num, by first | rfl | go_num, (show r - min r x = restF es l (k + 1) from by rw [restF, ← HR.out, ← HX.out]), by omega, by rw [daysF, ← HR.out, ← HX.out, ← HD.out], by rw [L1.out], by rw [L1.out, E1.out, ← Batch.all_snoc]; exact HP.out, hxP⟩
            case measure => simp [intOf]; omega
          · have LN := Lib.hid (show leftL es l (k + 1) = leftL es l k by rw [leftL, ← HR.out, ← HX.out, if_neg (by omega)])
            go_wp2
            go_roundw
            case rel => exact ⟨k + 1, r - min r x, A', c', by omega, by go_num, by first | rfl | go_num, (show r - min r x = restF es l (k + 1) from by rw [restF, ← HR.out, ← HX.out]), by omega, by rw [daysF, ← HR.out, ← HX.out, ← HD.out], by rw [LN.out], by rw [LN.out]; exact ho.ext (by (repeat (first | exact Ext.refl _ | assumption | refine Ext.alloc ?_ _ | refine Ext.drew ?_ | refine Ext.drewN ?_ _ | refine Ext.setCell ?_ (by (try simp only [World.size_alloc, World.size_setCell, World.size_drew, World.heap_drewN]); omega) _ | refine Ext.step (by assumption) ?_))), by (repeat (first | exact Ext.refl _ | assumption | refine Ext.alloc ?_ _ | refine Ext.drew ?_ | refine Ext.drewN ?_ _ | refine Ext.setCell ?_ (by (try simp only [World.size_alloc, World.size_setCell, World.size_drew, World.heap_drewN]); omega) _ | refine Ext.step (by assumption) ?_))⟩
            case measure => simp [intOf]; omega
        · obtain rfl : k = n := by omega
          by_cases f : 0 < r
          · have H := Lib.hid (show drinkF es l = (es, 0, false) from drinkF_no (fun e => by have := e.2.2; rw [HL.out, ← HR.out] at this; omega))
            go_wp2
            go_ret3
            refine ⟨A2, c2, ?_, ?_, (hx2.trans hx3).trans hx⟩
            · rw [H.out, HL.out]; rfl
            · rw [H.out, HL.out]; exact Own.ext H2.out (hx3.trans hx)
          · have H := Lib.hid (drinkF_yes (es := es) (l := l) ⟨h1, hl0, by rw [HL.out, ← HR.out]; omega⟩)
            have HO := Lib.hid ho
            clear ho
            go_wp2
            go_ret3
            refine ⟨A', c', ?_, ?_, (hx2.trans hx3).trans hx⟩
            · rw [H.out, HL.out]; rfl
            · rw [H.out, HL.out]; exact HO.out.mono (Ext.len (hx2.trans hx3))
    · have H := Lib.hid (show drinkF es l = (es, 0, false) from drinkF_no (fun e => hl0 e.2.1))
      go_enter Try.func26, Try.ntmps26
      go_wp2_with (at_builtin; refine wpList_cat w (Ext.refl _) rfl _ _ _ rfl 42 (.agg #[.int .i64 0, .int .i64 0]) 2 16 elInfo Try.underlying25 rfl (by omega) none 0 0 [] rfl (Own.nil_ _ _ _ _) _ _ _ _ rfl (h) (Batch.all_one es) (by omega) (by omega) ?_; intro A2 c2 w2 ho2 hx2; simp only [Nat.zero_add, List.nil_append] at ho2)
      go_wp2_with (go_at_call 13; refine (batchesOk_c _ _ _ es _ (h.ext hx2)).mono ?_; rintro e w3 ⟨rfl, hx⟩; have hl := hx.len; (try simp only [World.size_alloc, World.size_setCell, World.size_drew, World.heap_drewN] at hl))
      go_ret3
      refine ⟨A2, c2, ?_, ?_, hx2.trans hx⟩
      · rw [H.out, HL.out]; rfl
      · rw [H.out, HL.out]; exact ho2.ext hx
  · have H := Lib.hid (show drinkF es l = (es, 0, false) from drinkF_no (fun e => h1 e.1))
    go_enter Try.func26, Try.ntmps26
    go_wp2_with (at_builtin; refine wpList_cat w (Ext.refl _) rfl _ _ _ rfl 42 (.agg #[.int .i64 0, .int .i64 0]) 2 16 elInfo Try.underlying25 rfl (by omega) none 0 0 [] rfl (Own.nil_ _ _ _ _) _ _ _ _ rfl (h) (Batch.all_one es) (by omega) (by omega) ?_; intro A2 c2 w2 ho2 hx2; simp only [Nat.zero_add, List.nil_append] at ho2)
    go_wp2_with (go_at_call 13; refine (batchesOk_c _ _ _ es _ (h.ext hx2)).mono ?_; rintro e w3 ⟨rfl, hx⟩; have hl := hx.len; (try simp only [World.size_alloc, World.size_setCell, World.size_drew, World.heap_drewN] at hl))
    go_ret3
    refine ⟨A2, c2, ?_, ?_, hx2.trans hx⟩
    · rw [H.out, HL.out]; rfl
    · rw [H.out, HL.out]; exact ho2.ext hx
set_option maxHeartbeats 3200000 in
theorem sDrink_c (A : Option Addr) (n c : Nat) (es : List Batch) (l : Int) (w : World) (h : Holds w 2 A n c (Batch.all es)) (hn : n ≤ 1048576) (hlm : l ≤ 9223372036854775807) :
    Calls Try.prog 25 #[.slice A n c, .int .i64 l] w (FreshT 42 2 (drinkF es l).1.length (Batch.all (drinkF es l).1) [.int .i64 (drinkF es l).2.1, .bool (drinkF es l).2.2] w) := by
  have HL := Lib.hid (Batch.len h)
  by_cases hl0 : 0 ≤ l
  · by_cases h1 : batB es = true
    · have n40 : n ≤ 40 := by have := (batB_at h1).1; rw [HL.out] at this; exact this
      have LF : litersF es = sumL (lit es) n := by rw [litersF, if_pos h1, HL.out]
      have hre := (restF_eq hl0 h1 n (by rw [HL.out]; omega)).1
      have hsb := (sumL_bd (f := lit es) (n := es.length) (b := 100000) (fun i hi => by have := lit_bd h1 i hi; omega) n (by rw [HL.out]; omega))
      by_cases hle : l ≤ litersF es
      · have hr0 : restF es l n = 0 := by rw [hre]; omega
        have HS := Lib.hid h
        have HRE := Lib.hid hr0
        clear hre hsb LF
        go_enter Try.func25, Try.ntmps25
        go_wp2_with fail
        refine (sLitersIn_c _ _ _ es _ h).mono ?_; rintro e w1 ⟨rfl, x1⟩
        clear h
        go_wp2
        have hb0 := Own.lit (w := w1.alloc (.cells #[] 42)) (base := w1.heap.size) (e := 42) (k := 2) (n := 0) (cs := #[]) (heap_alloc_new _ _) (Nat.zero_le _) rfl
        go_loopw [1, 7, 8, 9] (fun ll o dd i wr => ∃ (k : Nat) (r : Int) (A' : Option Addr) (c' : Nat), k ≤ n ∧ i = .int .i64 k ∧ ll = .int .i64 r ∧ Hid (r = restF es l k) ∧ (0 ≤ r ∧ r ≤ l) ∧ dd = .int .i64 (daysF es l k) ∧ o = .slice A' (leftL es l k).length c' ∧ Own wr w1.heap.size 42 2 A' (leftL es l k).length c' (Batch.all (leftL es l k)) ∧ Ext w1 wr) (fun _ _ _ i _ => n - (intOf i).toNat)
        case atStart => exact ⟨0, l, _, 0, Nat.zero_le _, rfl, rfl, rfl, by omega, rfl, rfl, hb0, by (repeat (first | exact Ext.refl _ | assumption | refine Ext.alloc ?_ _ | refine Ext.drew ?_ | refine Ext.drewN ?_ _ | refine Ext.setCell ?_ (by (try simp only [World.size_alloc, World.size_setCell, World.size_drew, World.heap_drewN]); omega) _ | refine Ext.step (by assumption) ?_))⟩
        case round =>
          obtain ⟨k, r, A', c', hk, rfl, rfl, HR, hr, rfl, rfl, ho, hx⟩ := hrel
          by_cases hlt : k < n
          · obtain ⟨b, off, hA, hb, hc⟩ := Batch.where_ (HS.out.ext (x1.trans hx)) (by omega)
            subst hA
            obtain ⟨d0, d1⟩ := hc k hlt
            clear hc
            have b1 := lit_bd h1 k (by rw [HL.out]; exact hlt)
            have b2 := day_bd h1 k (by rw [HL.out]; exact hlt)
            have b3 := daysF_bd hl0 h1 k (by rw [HL.out]; exact hk)
            have hq := leftL_len es l k
            obtain ⟨x, hxx⟩ : ∃ x, x = lit es k := ⟨_, rfl⟩
            obtain ⟨dd, hdd⟩ : ∃ d, d = day es k := ⟨_, rfl⟩
            have d1' : wr.cell? ⟨b, off + k * 2 + 1, none⟩ = some (.int .i64 x) := by rw [hxx]; exact d1
            have d0' : wr.cell? ⟨b, off + k * 2, none⟩ = some (.int .i64 dd) := by rw [hdd]; exact d0
            rw [← hxx] at b1
            rw [← hdd] at b2
            have HX := Lib.hid hxx
            have BC := Lib.hid (show w1.cell? ⟨b, off + k * 2, none⟩ = some (.int .i64 dd) ∧ w1.cell? ⟨b, off + k * 2 + 1, none⟩ = some (.int .i64 x) from by
              obtain ⟨b', off', hA', _, hc'⟩ := Batch.where_ (HS.out.ext x1) (by omega)
              injection hA' with hA'
              injection hA' with q1 q2
              subst q1
              subst q2
              rw [hxx, hdd]
              exact hc' k hlt)
            have HD := Lib.hid hdd
            clear hxx hdd d0 d1
            have b4 := prod_bd (m := min r x) ⟨by omega, by omega⟩ b2
            have j0 : (0 : Int) ≤ (k : Int) := by omega
            have j1 : (k : Int) < (n : Int) := by omega
            by_cases f : min r x < x
            · have e1 : leftL es l (k + 1) = leftL es l k ++ [⟨dd, x - min r x⟩] := by rw [leftL, ← HR.out, ← HX.out, ← HD.out, if_pos (by omega)]
              have E1 := Lib.hid e1
              have L1 := Lib.hid (show (leftL es l (k + 1)).length = (leftL es l k).length + 1 by rw [e1]; simp)
              clear e1
              have hwx : IntKind.i64.wrap (x - min r x) = x - min r x := IntWalk.i64_in _ (by omega)
              go_wp2_with fail
              go_region_held3 (fun w' => w'.cell? ⟨b, off + k * 2, none⟩ = some (.int .i64 dd) ∧ w'.cell? ⟨b, off + k * 2 + 1, none⟩ = some (.int .i64 x)) (first | go_keep | exact ⟨hxP.got (BC.out).1, hxP.got (BC.out).2⟩) ((refine step_push w1 (by (repeat (first | exact Ext.refl _ | assumption | refine Ext.alloc ?_ _ | refine Ext.drew ?_ | refine Ext.drewN ?_ _ | refine Ext.setCell ?_ (by (try simp only [World.size_alloc, World.size_setCell, World.size_drew, World.heap_drewN]); omega) _ | refine Ext.step (by assumption) ?_))) (by rfl) _ _ _ (by rfl) 42 (.agg #[.int .i64 0, .int .i64 0]) 2 16 elInfo Try.underlying25 rfl (by omega) _ _ _ _ (by rfl) (Own.ext ho (by (repeat (first | exact Ext.refl _ | assumption | refine Ext.alloc ?_ _ | refine Ext.drew ?_ | refine Ext.drewN ?_ _ | refine Ext.setCell ?_ (by (try simp only [World.size_alloc, World.size_setCell, World.size_drew, World.heap_drewN]); omega) _ | refine Ext.step (by assumption) ?_)))) _ _ _ (by rfl) (by exact heap_last (by first | rfl | simp)) rfl (by simp [Value.oneCell']) (by omega) (by omega) ?_; intro AP cP wP hoP hxP))
              have HP := Lib.hid hoP
              clear hoP ho
              go_wp2
              go_roundw
              case rel => exact ⟨k + 1, r - min r x, AP, cP, by omega, by go_num, by first | rfl | go_num, (show r - min r x = restF es l (k + 1) from by rw [restF, ← HR.out, ← HX.out]), by omega, by rw [daysF, ← HR.out, ← HX.out, ← HD.out], by rw [L1.out], by rw [L1.out, E1.out, ← Batch.all_snoc]; exact HP.out, hxP⟩
              case measure => simp [intOf]; omega
            · have LN := Lib.hid (show leftL es l (k + 1) = leftL es l k by rw [leftL, ← HR.out, ← HX.out, if_neg (by omega)])
              go_wp2
              go_roundw
              case rel => exact ⟨k + 1, r - min r x, A', c', by omega, by go_num, by first | rfl | go_num, (show r - min r x = restF es l (k + 1) from by rw [restF, ← HR.out, ← HX.out]), by omega, by rw [daysF, ← HR.out, ← HX.out, ← HD.out], by rw [LN.out], by rw [LN.out]; exact ho.ext (by (repeat (first | exact Ext.refl _ | assumption | refine Ext.alloc ?_ _ | refine Ext.drew ?_ | refine Ext.drewN ?_ _ | refine Ext.setCell ?_ (by (try simp only [World.size_alloc, World.size_setCell, World.size_drew, World.heap_drewN]); omega) _ | refine Ext.step (by assumption) ?_))), by (repeat (first | exact Ext.refl _ | assumption | refine Ext.alloc ?_ _ | refine Ext.drew ?_ | refine Ext.drewN ?_ _ | refine Ext.setCell ?_ (by (try simp only [World.size_alloc, World.size_setCell, World.size_drew, World.heap_drewN]); omega) _ | refine Ext.step (by assumption) ?_))⟩
              case measure => simp [intOf]; omega
          · obtain rfl : k = n := by omega
            have H := Lib.hid (drinkF_yes (es := es) (l := l) ⟨h1, hl0, by rw [HL.out]; exact HRE.out⟩)
            have HO := Lib.hid ho
            clear ho
            go_wp2
            go_ret3
            refine ⟨A', c', ?_, ?_, x1.trans hx⟩
            · rw [H.out, HL.out]; rfl
            · rw [H.out, HL.out]; exact HO.out.mono x1.len
      · have H := Lib.hid (show drinkF es l = (es, 0, false) from drinkF_no (fun e => by have := e.2.2; rw [HL.out, hre] at this; omega))
        clear hre hsb LF
        go_enter Try.func25, Try.ntmps25
        go_wp2_with fail
        refine (sLitersIn_c _ _ _ es _ h).mono ?_; rintro e w1 ⟨rfl, x1⟩
        go_wp2_with (at_builtin; refine wpList_cat w1 ((Ext.refl _).alloc _) rfl _ _ _ rfl 42 (.agg #[.int .i64 0, .int .i64 0]) 2 16 elInfo Try.underlying25 rfl (by omega) (some ⟨w1.heap.size, 0, none⟩) 0 0 [] rfl (Own.lit (cs := #[]) (heap_alloc_new _ _) (Nat.zero_le _) rfl) _ _ _ _ rfl (h.ext (x1.trans ((Ext.refl _).alloc _))) (Batch.all_one es) (by omega) (by omega) ?_; intro A2 c2 w2 ho2 hx2; simp only [Nat.zero_add, List.nil_append] at ho2)
        go_wp2
        go_ret3
        refine ⟨A2, c2, ?_, ?_, x1.trans hx2⟩
        · rw [H.out, HL.out]; rfl
        · rw [H.out, HL.out]; exact Own.mono ho2 x1.len
    · have H := Lib.hid (show drinkF es l = (es, 0, false) from drinkF_no (fun e => h1 e.1))
      have hle : ¬ l ≤ litersF es := by rw [litersF, if_neg h1]; omega
      go_enter Try.func25, Try.ntmps25
      go_wp2_with fail
      refine (sLitersIn_c _ _ _ es _ h).mono ?_; rintro e w1 ⟨rfl, x1⟩
      go_wp2_with (at_builtin; refine wpList_cat w1 ((Ext.refl _).alloc _) rfl _ _ _ rfl 42 (.agg #[.int .i64 0, .int .i64 0]) 2 16 elInfo Try.underlying25 rfl (by omega) (some ⟨w1.heap.size, 0, none⟩) 0 0 [] rfl (Own.lit (cs := #[]) (heap_alloc_new _ _) (Nat.zero_le _) rfl) _ _ _ _ rfl (h.ext (x1.trans ((Ext.refl _).alloc _))) (Batch.all_one es) (by omega) (by omega) ?_; intro A2 c2 w2 ho2 hx2; simp only [Nat.zero_add, List.nil_append] at ho2)
      go_wp2
      go_ret3
      refine ⟨A2, c2, ?_, ?_, x1.trans hx2⟩
      · rw [H.out, HL.out]; rfl
      · rw [H.out, HL.out]; exact Own.mono ho2 x1.len
  · have H := Lib.hid (show drinkF es l = (es, 0, false) from drinkF_no (fun e => hl0 e.2.1))
    go_enter Try.func25, Try.ntmps25
    go_wp2_with (at_builtin; refine wpList_cat w ((Ext.refl _).alloc _) rfl _ _ _ rfl 42 (.agg #[.int .i64 0, .int .i64 0]) 2 16 elInfo Try.underlying25 rfl (by omega) (some ⟨w.heap.size, 0, none⟩) 0 0 [] rfl (Own.lit (cs := #[]) (heap_alloc_new _ _) (Nat.zero_le _) rfl) _ _ _ _ rfl (h.ext ((Ext.refl _).alloc _)) (Batch.all_one es) (by omega) (by omega) ?_; intro A2 c2 w2 ho2 hx2; simp only [Nat.zero_add, List.nil_append] at ho2)
    go_wp2
    go_ret3
    refine ⟨A2, c2, ?_, ?_, hx2⟩
    · rw [H.out, HL.out]; rfl
    · rw [H.out, HL.out]; exact ho2
end Go.Proofs.Ytecifmpkjegodaa
