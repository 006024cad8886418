/-
  The contract of PutBatch, of the program and of the reference.
-/
import Derived.Test.YtecifmpkjegodaaAgeB
import Derived.Test.YtecifmpkjegodaaSetBatch
namespace Go.Proofs.Ytecifmpkjegodaa
open Go.RowKit

/-- the list with the batch put behind it -/
noncomputable def putL (es : List Batch) (d l : Int) : List Batch := if 0 < es.length ∧ day es (es.length - 1) = d then es.set (es.length - 1) ⟨day es (es.length - 1), lit es (es.length - 1) + l⟩ else es ++ [⟨d, l⟩]
open Classical in
/-- what PutBatch answers -/
noncomputable def putF (es : List Batch) (d l : Int) : List Batch × Bool := if batB es = true ∧ inB l 1 100000 = true ∧ batB (putL es d l) = true then (putL es d l, true) else (es, false)
theorem putF_no {es : List Batch} {d l : Int} (h : ¬ (batB es = true ∧ inB l 1 100000 = true ∧ batB (putL es d l) = true)) : putF es d l = (es, false) := if_neg h
theorem putF_yes {es : List Batch} {d l : Int} (h : batB es = true ∧ inB l 1 100000 = true ∧ batB (putL es d l) = true) : putF es d l = (putL es d l, true) := if_pos h
theorem putL_set {es : List Batch} {d l : Int} {n : Nat} (hn : es.length = n) (h0 : 0 < n) (h : day es (n - 1) = d) : putL es d l = es.set (n - 1) ⟨day es (n - 1), lit es (n - 1) + l⟩ := by subst hn; exact if_pos ⟨h0, h⟩
theorem putL_add {es : List Batch} {d l : Int} {n : Nat} (hn : es.length = n) (h : ¬ (0 < n ∧ day es (n - 1) = d)) : putL es d l = es ++ [⟨d, l⟩] := by subst hn; exact if_neg h
theorem putL_len (es : List Batch) (d l : Int) : (putL es d l).length ≤ es.length + 1 := by
  unfold putL
  split
  · simp
  · simp
theorem putF_len (es : List Batch) (d l : Int) : (putF es d l).1.length ≤ es.length + 1 := by
  unfold putF
  split
  · exact putL_len _ _ _
  · simp
set_option maxHeartbeats 3200000 in
theorem put_c (A : Option Addr) (n c : Nat) (es : List Batch) (d l : Int) (w : World) (h : Holds w 2 A n c (Batch.all es)) (hn : n ≤ 1048576) :
    Calls Try.prog 22 #[.slice A n c, .int .i64 d, .int .i64 l] w (FreshT 42 2 (putF es d l).1.length (Batch.all (putF es d l).1) [.bool (putF es d l).2] w) := by
  have HL := Lib.hid (Batch.len h)
  by_cases h1 : batB es = true
  · by_cases h2 : inB l 1 100000 = true
    · have n40 : n ≤ 40 := by have := (batB_at h1).1; rw [HL.out] at this; exact this
      obtain ⟨l0, l1⟩ := inB_yes h2
      have hl := Lib.hid (fun (q : 0 < n) => lit_bd h1 (n - 1) (by rw [HL.out]; omega))
      by_cases h0 : 0 < n
      · have i0 : (0 : Int) ≤ (n : Int) - 1 := by omega
        have i1 : (n : Int) - 1 < (n : Int) := by omega
        have i2 : (0 : Int) < (n : Int) := by omega
        obtain ⟨b0, b1⟩ := hl.out h0
        change 1 ≤ (Batch.at_ es (n - 1)).f1 at b0
        change (Batch.at_ es (n - 1)).f1 ≤ 100000 at b1
        by_cases hd : day es (n - 1) = d
        · have hd' : (day es (n - 1) == d) = true := by simp [hd]
          have PL := Lib.hid (putL_set (l := l) HL.out h0 hd)
          have HD := Lib.hid hd
          clear hd
          go_enter Try.func22, Try.ntmps22
          go_wp2_with (first | (at_builtin; refine wpList_cat w (Ext.refl _) rfl _ _ _ rfl 42 (.agg #[.int .i64 0, .int .i64 0]) 2 16 elInfo Try.underlying25 rfl (by omega) none 0 0 [] rfl (Own.nil_ _ _ _ _) _ _ _ _ rfl (h) (Batch.all_one es) (by omega) (by omega) ?_; intro A2 c2 w2 ho2 hx2; simp only [Nat.zero_add, List.nil_append] at ho2) | (go_at_call 32; refine (within_c _ _ _ _).mono ?_; rintro e w' ⟨rfl, rfl⟩))
          refine (batchesOk_c _ _ _ es _ (h.ext hx2)).mono ?_; rintro e w3 ⟨rfl, hx3⟩
          go_wp2_with (at_builtin; refine wpList_cat w3 (Ext.refl _) rfl _ _ _ rfl 42 (.agg #[.int .i64 0, .int .i64 0]) 2 16 elInfo Try.underlying25 rfl (by omega) none 0 0 [] rfl (Own.nil_ _ _ _ _) _ _ _ _ rfl (h.ext (hx2.trans hx3)) (Batch.all_one es) (by omega) (by omega) ?_; intro A4 c4 w4 ho4 hx4; simp only [Nat.zero_add, List.nil_append] at ho4; have H2 := Lib.hid ho2; clear ho2; obtain ⟨g, hA4, hg1, hg2⟩ := ho4.form h0; subst hA4; have hu0 := (World.ownsRow.cellAt ho4 ((n - 1) * 2) (by omega)).trans (Batch.all_get0 es (n - 1) (by rw [HL.out]; omega)); have hu1 := (World.ownsRow.cellAt ho4 ((n - 1) * 2 + 1) (by omega)).trans (Batch.all_get1 es (n - 1) (by rw [HL.out]; omega)); have hf1 := World.ownsRow.frozenAt ho4 ((n - 1) * 2 + 1); have H4 := Lib.hid ho4)
          have hs := (World.ownsRow.stored H4.out ((n - 1) * 2 + 1) (.int .i64 (lit es (n - 1) + l))).1
          rw [Batch.set1 es (n - 1) (by rw [HL.out]; omega)] at hs
          have HS := Lib.hid hs
          clear hs
          have HO := Lib.hid (show Own _ w3.heap.size 42 2 _ _ _ (Batch.all (putL es d l)) from by rw [PL.out]; exact HS.out)
          have hxo : Ext w3 _ := Ext.setCell hx4 (p := ⟨g, (n - 1) * 2 + 1, none⟩) hg1 (.int .i64 (lit es (n - 1) + l))
          cases hf : batB (putL es d l)
          · have H := Lib.hid (show putF es d l = (es, false) from putF_no (fun e => by rw [e.2.2] at hf; cases hf))
            refine (batchesOk_c _ _ _ (putL es d l) _ HO.out.holds).mono ?_; rintro e w9 ⟨rfl, hx9⟩
            go_wp2
            go_ret2
            refine ⟨A2, c2, ?_, ?_, ((hx2.trans hx3).trans hxo).trans hx9⟩
            · rw [H.out, HL.out]; rfl
            · rw [H.out, HL.out]; exact Own.ext H2.out ((hx3.trans hxo).trans hx9)
          · have H := Lib.hid (putF_yes ⟨h1, h2, hf⟩)
            have LN := Lib.hid (show (putL es d l).length = n from by simp only [PL.out, List.length_set, HL.out])
            refine (batchesOk_c _ _ _ (putL es d l) _ HO.out.holds).mono ?_; rintro e w9 ⟨rfl, hx9⟩
            go_wp2
            go_ret2
            refine ⟨some ⟨g, 0, none⟩, c4, ?_, ?_, ((hx2.trans hx3).trans hxo).trans hx9⟩
            rotate_left
            · rw [H.out]; show Own _ _ _ 2 _ (putL es d l).length _ _; rw [LN.out]; exact (HO.out.ext hx9).mono (Ext.len (hx2.trans hx3))
            · rw [H.out]; simp only [LN.out]; rfl
        · have hd' : (day es (n - 1) == d) = false := by simpa using hd
          have PL := Lib.hid (putL_add (l := l) HL.out (fun e => hd e.2))
          clear hd
          go_enter Try.func22, Try.ntmps22
          go_wp2_with (first | (at_builtin; refine wpList_cat w (Ext.refl _) rfl _ _ _ rfl 42 (.agg #[.int .i64 0, .int .i64 0]) 2 16 elInfo Try.underlying25 rfl (by omega) none 0 0 [] rfl (Own.nil_ _ _ _ _) _ _ _ _ rfl (h) (Batch.all_one es) (by omega) (by omega) ?_; intro A2 c2 w2 ho2 hx2; simp only [Nat.zero_add, List.nil_append] at ho2) | (go_at_call 32; refine (within_c _ _ _ _).mono ?_; rintro e w' ⟨rfl, rfl⟩))
          refine (batchesOk_c _ _ _ es _ (h.ext hx2)).mono ?_; rintro e w3 ⟨rfl, hx3⟩
          go_wp2_with (first | (at_builtin; refine wpList_cat w3 (Ext.refl _) rfl _ _ _ rfl 42 (.agg #[.int .i64 0, .int .i64 0]) 2 16 elInfo Try.underlying25 rfl (by omega) none 0 0 [] rfl (Own.nil_ _ _ _ _) _ _ _ _ rfl (h.ext (hx2.trans hx3)) (Batch.all_one es) (by omega) (by omega) ?_; intro A4 c4 w4 ho4 hx4; simp only [Nat.zero_add, List.nil_append] at ho4; have H2 := Lib.hid ho2; clear ho2; obtain ⟨g, hA4, hg1, hg2⟩ := ho4.form h0; subst hA4; have hu0 := (World.ownsRow.cellAt ho4 ((n - 1) * 2) (by omega)).trans (Batch.all_get0 es (n - 1) (by rw [HL.out]; omega)); have hu1 := (World.ownsRow.cellAt ho4 ((n - 1) * 2 + 1) (by omega)).trans (Batch.all_get1 es (n - 1) (by rw [HL.out]; omega)); have hf1 := World.ownsRow.frozenAt ho4 ((n - 1) * 2 + 1); have H4 := Lib.hid ho4) | (at_builtin; refine wpList_push w3 (by (repeat (first | exact Ext.refl _ | assumption | refine Ext.alloc ?_ _ | refine Ext.drew ?_ | refine Ext.drewN ?_ _ | refine Ext.setCell ?_ (by (try simp only [World.size_alloc, World.size_setCell, World.size_drew, World.heap_drewN]); omega) _ | refine Ext.step (by assumption) ?_))) rfl _ _ _ rfl 42 (.agg #[.int .i64 0, .int .i64 0]) 2 16 elInfo Try.underlying25 rfl (by omega) _ _ _ _ rfl (Own.ext ho4 (by (repeat (first | exact Ext.refl _ | assumption | refine Ext.alloc ?_ _ | refine Ext.drew ?_ | refine Ext.drewN ?_ _ | refine Ext.setCell ?_ (by (try simp only [World.size_alloc, World.size_setCell, World.size_drew, World.heap_drewN]); omega) _ | refine Ext.step (by assumption) ?_)))) _ _ _ rfl (by exact heap_last (by first | rfl | simp)) rfl (by simp [Value.oneCell']) (by omega) (by omega) ?_; intro AP cP wP hoP hxP))
          have HP2 := Lib.hid hoP
          clear hoP
          have HO := Lib.hid (show Own _ w3.heap.size 42 2 _ _ _ (Batch.all (putL es d l)) from by rw [PL.out, ← Batch.all_snoc]; exact HP2.out)
          have hxo : Ext w3 _ := hxP
          cases hf : batB (putL es d l)
          · have H := Lib.hid (show putF es d l = (es, false) from putF_no (fun e => by rw [e.2.2] at hf; cases hf))
            refine (batchesOk_c _ _ _ (putL es d l) _ HO.out.holds).mono ?_; rintro e w9 ⟨rfl, hx9⟩
            go_wp2
            go_ret2
            refine ⟨A2, c2, ?_, ?_, ((hx2.trans hx3).trans hxo).trans hx9⟩
            · rw [H.out, HL.out]; rfl
            · rw [H.out, HL.out]; exact Own.ext H2.out ((hx3.trans hxo).trans hx9)
          · have H := Lib.hid (putF_yes ⟨h1, h2, hf⟩)
            have LN := Lib.hid (show (putL es d l).length = n + 1 from by simp only [PL.out, List.length_append, List.length_cons, List.length_nil, HL.out])
            refine (batchesOk_c _ _ _ (putL es d l) _ HO.out.holds).mono ?_; rintro e w9 ⟨rfl, hx9⟩
            go_wp2
            go_ret2
            refine ⟨AP, cP, ?_, ?_, ((hx2.trans hx3).trans hxo).trans hx9⟩
            rotate_left
            · rw [H.out]; show Own _ _ _ 2 _ (putL es d l).length _ _; rw [LN.out]; exact (HO.out.ext hx9).mono (Ext.len (hx2.trans hx3))
            · rw [H.out]; simp only [LN.out]; rfl
      · obtain rfl : n = 0 := by omega
        have PL := Lib.hid (putL_add (d := d) (l := l) HL.out (fun e => h0 e.1))
        go_enter Try.func22, Try.ntmps22
        go_wp2_with (first | (at_builtin; refine wpList_cat w (Ext.refl _) rfl _ _ _ rfl 42 (.agg #[.int .i64 0, .int .i64 0]) 2 16 elInfo Try.underlying25 rfl (by omega) none 0 0 [] rfl (Own.nil_ _ _ _ _) _ _ _ _ rfl (h) (Batch.all_one es) (by omega) (by omega) ?_; intro A2 c2 w2 ho2 hx2; simp only [Nat.zero_add, List.nil_append] at ho2) | (go_at_call 32; refine (within_c _ _ _ _).mono ?_; rintro e w' ⟨rfl, rfl⟩))
        refine (batchesOk_c _ _ _ es _ (h.ext hx2)).mono ?_; rintro e w3 ⟨rfl, hx3⟩
        go_wp2_with (first | (at_builtin; refine wpList_cat w3 (Ext.refl _) rfl _ _ _ rfl 42 (.agg #[.int .i64 0, .int .i64 0]) 2 16 elInfo Try.underlying25 rfl (by omega) none 0 0 [] rfl (Own.nil_ _ _ _ _) _ _ _ _ rfl (h.ext (hx2.trans hx3)) (Batch.all_one es) (by omega) (by omega) ?_; intro A4 c4 w4 ho4 hx4; simp only [Nat.zero_add, List.nil_append] at ho4; have H2 := Lib.hid ho2; clear ho2) | (at_builtin; refine wpList_push w3 (by (repeat (first | exact Ext.refl _ | assumption | refine Ext.alloc ?_ _ | refine Ext.drew ?_ | refine Ext.drewN ?_ _ | refine Ext.setCell ?_ (by (try simp only [World.size_alloc, World.size_setCell, World.size_drew, World.heap_drewN]); omega) _ | refine Ext.step (by assumption) ?_))) rfl _ _ _ rfl 42 (.agg #[.int .i64 0, .int .i64 0]) 2 16 elInfo Try.underlying25 rfl (by omega) _ _ _ _ rfl (Own.ext ho4 (by (repeat (first | exact Ext.refl _ | assumption | refine Ext.alloc ?_ _ | refine Ext.drew ?_ | refine Ext.drewN ?_ _ | refine Ext.setCell ?_ (by (try simp only [World.size_alloc, World.size_setCell, World.size_drew, World.heap_drewN]); omega) _ | refine Ext.step (by assumption) ?_)))) _ _ _ rfl (by exact heap_last (by first | rfl | simp)) rfl (by simp [Value.oneCell']) (by omega) (by omega) ?_; intro AP cP wP hoP hxP))
        have HP2 := Lib.hid hoP
        clear hoP
        have HO := Lib.hid (show Own _ w3.heap.size 42 2 _ _ _ (Batch.all (putL es d l)) from by rw [PL.out, ← Batch.all_snoc]; exact HP2.out)
        have hxo : Ext w3 _ := hxP
        cases hf : batB (putL es d l)
        · have H := Lib.hid (show putF es d l = (es, false) from putF_no (fun e => by rw [e.2.2] at hf; cases hf))
          refine (batchesOk_c _ _ _ (putL es d l) _ HO.out.holds).mono ?_; rintro e w9 ⟨rfl, hx9⟩
          go_wp2
          go_ret2
          refine ⟨A2, c2, ?_, ?_, ((hx2.trans hx3).trans hxo).trans hx9⟩
          · rw [H.out, HL.out]; rfl
          · rw [H.out, HL.out]; exact Own.ext H2.out ((hx3.trans hxo).trans hx9)
        · have H := Lib.hid (putF_yes ⟨h1, h2, hf⟩)
          have LN := Lib.hid (show (putL es d l).length = 0 + 1 from by simp only [PL.out, List.length_append, List.length_cons, List.length_nil, HL.out])
          refine (batchesOk_c _ _ _ (putL es d l) _ HO.out.holds).mono ?_; rintro e w9 ⟨rfl, hx9⟩
          go_wp2
          go_ret2
          refine ⟨AP, cP, ?_, ?_, ((hx2.trans hx3).trans hxo).trans hx9⟩
          rotate_left
          · rw [H.out]; show Own _ _ _ 2 _ (putL es d l).length _ _; rw [LN.out]; exact (HO.out.ext hx9).mono (Ext.len (hx2.trans hx3))
          · rw [H.out]; simp only [LN.out]; rfl
    · have H := Lib.hid (show putF es d l = (es, false) from putF_no (fun e => h2 e.2.1))
      go_enter Try.func22, Try.ntmps22
      go_wp2_with (first | (at_builtin; refine wpList_cat w (Ext.refl _) rfl _ _ _ rfl 42 (.agg #[.int .i64 0, .int .i64 0]) 2 16 elInfo Try.underlying25 rfl (by omega) none 0 0 [] rfl (Own.nil_ _ _ _ _) _ _ _ _ rfl (h) (Batch.all_one es) (by omega) (by omega) ?_; intro A2 c2 w2 ho2 hx2; simp only [Nat.zero_add, List.nil_append] at ho2) | (go_at_call 32; refine (within_c _ _ _ _).mono ?_; rintro e w' ⟨rfl, rfl⟩))
      go_ret2
      refine ⟨A2, c2, ?_, ?_, hx2⟩
      · rw [H.out, HL.out]; rfl
      · rw [H.out, HL.out]; exact ho2
  · have H := Lib.hid (show putF es d l = (es, false) from putF_no (fun e => h1 e.1))
    cases h2 : inB l 1 100000
    · go_enter Try.func22, Try.ntmps22
      go_wp2_with (first | (at_builtin; refine wpList_cat w (Ext.refl _) rfl _ _ _ rfl 42 (.agg #[.int .i64 0, .int .i64 0]) 2 16 elInfo Try.underlying25 rfl (by omega) none 0 0 [] rfl (Own.nil_ _ _ _ _) _ _ _ _ rfl (h) (Batch.all_one es) (by omega) (by omega) ?_; intro A2 c2 w2 ho2 hx2; simp only [Nat.zero_add, List.nil_append] at ho2) | (go_at_call 32; refine (within_c _ _ _ _).mono ?_; rintro e w' ⟨rfl, rfl⟩))
      go_ret2
      refine ⟨A2, c2, ?_, ?_, hx2⟩
      · rw [H.out, HL.out]; rfl
      · rw [H.out, HL.out]; exact ho2
    · go_enter Try.func22, Try.ntmps22
      go_wp2_with (first | (at_builtin; refine wpList_cat w (Ext.refl _) rfl _ _ _ rfl 42 (.agg #[.int .i64 0, .int .i64 0]) 2 16 elInfo Try.underlying25 rfl (by omega) none 0 0 [] rfl (Own.nil_ _ _ _ _) _ _ _ _ rfl (h) (Batch.all_one es) (by omega) (by omega) ?_; intro A2 c2 w2 ho2 hx2; simp only [Nat.zero_add, List.nil_append] at ho2) | (go_at_call 32; refine (within_c _ _ _ _).mono ?_; rintro e w' ⟨rfl, rfl⟩))
      refine (batchesOk_c _ _ _ es _ (h.ext hx2)).mono ?_; rintro e w3 ⟨rfl, hx3⟩
      go_wp2
      go_ret2
      refine ⟨A2, c2, ?_, ?_, hx2.trans hx3⟩
      · rw [H.out, HL.out]; rfl
      · rw [H.out, HL.out]; exact ho2.ext hx3
set_option maxHeartbeats 3200000 in
theorem sPut_c (A : Option Addr) (n c : Nat) (es : List Batch) (d l : Int) (w : World) (h : Holds w 2 A n c (Batch.all es)) (hn : n ≤ 1048576) :
    Calls Try.prog 21 #[.slice A n c, .int .i64 d, .int .i64 l] w (FreshT 42 2 (putF es d l).1.length (Batch.all (putF es d l).1) [.bool (putF es d l).2] w) := by
  have HL := Lib.hid (Batch.len h)
  by_cases h1 : batB es = true
  · by_cases h2 : inB l 1 100000 = true
    · have n40 : n ≤ 40 := by have := (batB_at h1).1; rw [HL.out] at this; exact this
      obtain ⟨l0, l1⟩ := inB_yes h2
      have hl := Lib.hid (fun (q : 0 < n) => lit_bd h1 (n - 1) (by rw [HL.out]; omega))
      by_cases h0 : 0 < n
      · have i0 : (0 : Int) ≤ (n : Int) - 1 := by omega
        have i1 : (n : Int) - 1 < (n : Int) := by omega
        have i2 : (0 : Int) < (n : Int) := by omega
        obtain ⟨b0, b1⟩ := hl.out h0
        change 1 ≤ (Batch.at_ es (n - 1)).f1 at b0
        change (Batch.at_ es (n - 1)).f1 ≤ 100000 at b1
        by_cases hd : day es (n - 1) = d
        · have hd' : (day es (n - 1) == d) = true := by simp [hd]
          have PL := Lib.hid (putL_set (l := l) HL.out h0 hd)
          have HD := Lib.hid hd
          clear hd
          go_enter Try.func21, Try.ntmps21
          go_wp2_with (first | (at_builtin; refine wpList_cat w ((Ext.refl _).alloc _) rfl _ _ _ rfl 42 (.agg #[.int .i64 0, .int .i64 0]) 2 16 elInfo Try.underlying25 rfl (by omega) (some ⟨w.heap.size, 0, none⟩) 0 0 [] rfl (Own.lit (cs := #[]) (heap_alloc_new _ _) (Nat.zero_le _) rfl) _ _ _ _ rfl (Holds.ext (h) ((Ext.refl _).alloc _)) (Batch.all_one es) (by omega) (by omega) ?_; intro A2 c2 w2 ho2 hx2; simp only [Nat.zero_add, List.nil_append] at ho2) | (at_builtin; refine wpList_cat w2 ((Ext.refl _).alloc _) rfl _ _ _ rfl 42 (.agg #[.int .i64 0, .int .i64 0]) 2 16 elInfo Try.underlying25 rfl (by omega) (some ⟨w2.heap.size, 0, none⟩) 0 0 [] rfl (Own.lit (cs := #[]) (heap_alloc_new _ _) (Nat.zero_le _) rfl) _ _ _ _ rfl (Holds.ext (h.ext hx2) ((Ext.refl _).alloc _)) (Batch.all_one es) (by omega) (by omega) ?_; intro A4 c4 w4 ho4 hx4; simp only [Nat.zero_add, List.nil_append] at ho4))
          refine (sBatchesOk_c _ _ _ es _ (h.ext (hx2.trans hx4))).mono ?_; rintro e w5 ⟨rfl, hx5⟩
          replace ho4 := ho4.ext hx5
          have H2 := Lib.hid ho2
          clear ho2
          obtain ⟨g, hA4, hg1, hg2⟩ := ho4.form h0
          subst hA4
          have hu0 := (World.ownsRow.cellAt ho4 ((n - 1) * 2) (by omega)).trans (Batch.all_get0 es (n - 1) (by rw [HL.out]; omega))
          have hu1 := (World.ownsRow.cellAt ho4 ((n - 1) * 2 + 1) (by omega)).trans (Batch.all_get1 es (n - 1) (by rw [HL.out]; omega))
          have hf1 := World.ownsRow.frozenAt ho4 ((n - 1) * 2 + 1)
          have H4 := Lib.hid ho4
          go_wp2_with (go_at_call 30; refine (l01In_c _ _ _ _).mono ?_; rintro e w' ⟨rfl, rfl⟩)
          have hs := (World.ownsRow.stored H4.out ((n - 1) * 2 + 1) (.int .i64 (lit es (n - 1) + l))).1
          rw [Batch.set1 es (n - 1) (by rw [HL.out]; omega)] at hs
          have HS := Lib.hid hs
          clear hs
          have HO := Lib.hid (show Own _ w2.heap.size 42 2 _ _ _ (Batch.all (putL es d l)) from by rw [PL.out]; exact HS.out)
          have hxo : Ext w2 _ := Ext.setCell (hx4.trans hx5) (p := ⟨g, (n - 1) * 2 + 1, none⟩) hg1 (.int .i64 (lit es (n - 1) + l))
          cases hf : batB (putL es d l)
          · have H := Lib.hid (show putF es d l = (es, false) from putF_no (fun e => by rw [e.2.2] at hf; cases hf))
            refine (sBatchesOk_c _ _ _ (putL es d l) _ HO.out.holds).mono ?_; rintro e w9 ⟨rfl, hx9⟩
            go_wp2
            go_ret2
            refine ⟨A2, c2, ?_, ?_, (hx2.trans hxo).trans hx9⟩
            · rw [H.out, HL.out]; rfl
            · rw [H.out, HL.out]; exact Own.ext H2.out (hxo.trans hx9)
          · have H := Lib.hid (putF_yes ⟨h1, h2, hf⟩)
            have LN := Lib.hid (show (putL es d l).length = n from by simp only [PL.out, List.length_set, HL.out])
            refine (sBatchesOk_c _ _ _ (putL es d l) _ HO.out.holds).mono ?_; rintro e w9 ⟨rfl, hx9⟩
            go_wp2
            go_ret2
            refine ⟨some ⟨g, 0, none⟩, c4, ?_, ?_, (hx2.trans hxo).trans hx9⟩
            rotate_left
            · rw [H.out]; show Own _ _ _ 2 _ (putL es d l).length _ _; rw [LN.out]; exact (HO.out.ext hx9).mono (Ext.len hx2)
            · rw [H.out]; simp only [LN.out]; rfl
        · have hd' : (day es (n - 1) == d) = false := by simpa using hd
          have PL := Lib.hid (putL_add (l := l) HL.out (fun e => hd e.2))
          clear hd
          go_enter Try.func21, Try.ntmps21
          go_wp2_with (first | (at_builtin; refine wpList_cat w ((Ext.refl _).alloc _) rfl _ _ _ rfl 42 (.agg #[.int .i64 0, .int .i64 0]) 2 16 elInfo Try.underlying25 rfl (by omega) (some ⟨w.heap.size, 0, none⟩) 0 0 [] rfl (Own.lit (cs := #[]) (heap_alloc_new _ _) (Nat.zero_le _) rfl) _ _ _ _ rfl (Holds.ext (h) ((Ext.refl _).alloc _)) (Batch.all_one es) (by omega) (by omega) ?_; intro A2 c2 w2 ho2 hx2; simp only [Nat.zero_add, List.nil_append] at ho2) | (at_builtin; refine wpList_cat w2 ((Ext.refl _).alloc _) rfl _ _ _ rfl 42 (.agg #[.int .i64 0, .int .i64 0]) 2 16 elInfo Try.underlying25 rfl (by omega) (some ⟨w2.heap.size, 0, none⟩) 0 0 [] rfl (Own.lit (cs := #[]) (heap_alloc_new _ _) (Nat.zero_le _) rfl) _ _ _ _ rfl (Holds.ext (h.ext hx2) ((Ext.refl _).alloc _)) (Batch.all_one es) (by omega) (by omega) ?_; intro A4 c4 w4 ho4 hx4; simp only [Nat.zero_add, List.nil_append] at ho4))
          refine (sBatchesOk_c _ _ _ es _ (h.ext (hx2.trans hx4))).mono ?_; rintro e w5 ⟨rfl, hx5⟩
          replace ho4 := ho4.ext hx5
          have H2 := Lib.hid ho2
          clear ho2
          obtain ⟨g, hA4, hg1, hg2⟩ := ho4.form h0
          subst hA4
          have hu0 := (World.ownsRow.cellAt ho4 ((n - 1) * 2) (by omega)).trans (Batch.all_get0 es (n - 1) (by rw [HL.out]; omega))
          have hu1 := (World.ownsRow.cellAt ho4 ((n - 1) * 2 + 1) (by omega)).trans (Batch.all_get1 es (n - 1) (by rw [HL.out]; omega))
          have hf1 := World.ownsRow.frozenAt ho4 ((n - 1) * 2 + 1)
          have H4 := Lib.hid ho4
          go_wp2_with (first | (go_at_call 30; refine (l01In_c _ _ _ _).mono ?_; rintro e w' ⟨rfl, rfl⟩) | (at_builtin; refine wpList_push w2 (by (repeat (first | exact Ext.refl _ | assumption | refine Ext.alloc ?_ _ | refine Ext.drew ?_ | refine Ext.drewN ?_ _ | refine Ext.setCell ?_ (by (try simp only [World.size_alloc, World.size_setCell, World.size_drew, World.heap_drewN]); omega) _ | refine Ext.step (by assumption) ?_))) rfl _ _ _ rfl 42 (.agg #[.int .i64 0, .int .i64 0]) 2 16 elInfo Try.underlying25 rfl (by omega) _ _ _ _ rfl (Own.ext ho4 (by (repeat (first | exact Ext.refl _ | assumption | refine Ext.alloc ?_ _ | refine Ext.drew ?_ | refine Ext.drewN ?_ _ | refine Ext.setCell ?_ (by (try simp only [World.size_alloc, World.size_setCell, World.size_drew, World.heap_drewN]); omega) _ | refine Ext.step (by assumption) ?_)))) _ _ _ rfl (by exact heap_last (by first | rfl | simp)) rfl (by simp [Value.oneCell']) (by omega) (by omega) ?_; intro AP cP wP hoP hxP))
          have HP2 := Lib.hid hoP
          clear hoP
          have HO := Lib.hid (show Own _ w2.heap.size 42 2 _ _ _ (Batch.all (putL es d l)) from by rw [PL.out, ← Batch.all_snoc]; exact HP2.out)
          have hxo : Ext w2 _ := hxP
          cases hf : batB (putL es d l)
          · have H := Lib.hid (show putF es d l = (es, false) from putF_no (fun e => by rw [e.2.2] at hf; cases hf))
            refine (sBatchesOk_c _ _ _ (putL es d l) _ HO.out.holds).mono ?_; rintro e w9 ⟨rfl, hx9⟩
            go_wp2
            go_ret2
            refine ⟨A2, c2, ?_, ?_, (hx2.trans hxo).trans hx9⟩
            · rw [H.out, HL.out]; rfl
            · rw [H.out, HL.out]; exact Own.ext H2.out (hxo.trans hx9)
          · have H := Lib.hid (putF_yes ⟨h1, h2, hf⟩)
            have LN := Lib.hid (show (putL es d l).length = n + 1 from by simp only [PL.out, List.length_append, List.length_cons, List.length_nil, HL.out])
            refine (sBatchesOk_c _ _ _ (putL es d l) _ HO.out.holds).mono ?_; rintro e w9 ⟨rfl, hx9⟩
            go_wp2
            go_ret2
            refine ⟨AP, cP, ?_, ?_, (hx2.trans hxo).trans hx9⟩
            rotate_left
            · rw [H.out]; show Own _ _ _ 2 _ (putL es d l).length _ _; rw [LN.out]; exact (HO.out.ext hx9).mono (Ext.len hx2)
            · rw [H.out]; simp only [LN.out]; rfl
      · obtain rfl : n = 0 := by omega
        have PL := Lib.hid (putL_add (d := d) (l := l) HL.out (fun e => h0 e.1))
        go_enter Try.func21, Try.ntmps21
        go_wp2_with (first | (at_builtin; refine wpList_cat w ((Ext.refl _).alloc _) rfl _ _ _ rfl 42 (.agg #[.int .i64 0, .int .i64 0]) 2 16 elInfo Try.underlying25 rfl (by omega) (some ⟨w.heap.size, 0, none⟩) 0 0 [] rfl (Own.lit (cs := #[]) (heap_alloc_new _ _) (Nat.zero_le _) rfl) _ _ _ _ rfl (Holds.ext (h) ((Ext.refl _).alloc _)) (Batch.all_one es) (by omega) (by omega) ?_; intro A2 c2 w2 ho2 hx2; simp only [Nat.zero_add, List.nil_append] at ho2) | (at_builtin; refine wpList_cat w2 ((Ext.refl _).alloc _) rfl _ _ _ rfl 42 (.agg #[.int .i64 0, .int .i64 0]) 2 16 elInfo Try.underlying25 rfl (by omega) (some ⟨w2.heap.size, 0, none⟩) 0 0 [] rfl (Own.lit (cs := #[]) (heap_alloc_new _ _) (Nat.zero_le _) rfl) _ _ _ _ rfl (Holds.ext (h.ext hx2) ((Ext.refl _).alloc _)) (Batch.all_one es) (by omega) (by omega) ?_; intro A4 c4 w4 ho4 hx4; simp only [Nat.zero_add, List.nil_append] at ho4))
        refine (sBatchesOk_c _ _ _ es _ (h.ext (hx2.trans hx4))).mono ?_; rintro e w5 ⟨rfl, hx5⟩
        replace ho4 := ho4.ext hx5
        have H2 := Lib.hid ho2
        clear ho2
        go_wp2_with (first | (go_at_call 30; refine (l01In_c _ _ _ _).mono ?_; rintro e w' ⟨rfl, rfl⟩) | (at_builtin; refine wpList_push w2 (by (repeat (first | exact Ext.refl _ | assumption | refine Ext.alloc ?_ _ | refine Ext.drew ?_ | refine Ext.drewN ?_ _ | refine Ext.setCell ?_ (by (try simp only [World.size_alloc, World.size_setCell, World.size_drew, World.heap_drewN]); omega) _ | refine Ext.step (by assumption) ?_))) rfl _ _ _ rfl 42 (.agg #[.int .i64 0, .int .i64 0]) 2 16 elInfo Try.underlying25 rfl (by omega) _ _ _ _ rfl (Own.ext ho4 (by (repeat (first | exact Ext.refl _ | assumption | refine Ext.alloc ?_ _ | refine Ext.drew ?_ | refine Ext.drewN ?_ _ | refine Ext.setCell ?_ (by (try simp only [World.size_alloc, World.size_setCell, World.size_drew, World.heap_drewN]); omega) _ | refine Ext.step (by assumption) ?_)))) _ _ _ rfl (by exact heap_last (by first | rfl | simp)) rfl (by simp [Value.oneCell']) (by omega) (by omega) ?_; intro AP cP wP hoP hxP))
        have HP2 := Lib.hid hoP
        clear hoP
        have HO := Lib.hid (show Own _ w2.heap.size 42 2 _ _ _ (Batch.all (putL es d l)) from by rw [PL.out, ← Batch.all_snoc]; exact HP2.out)
        have hxo : Ext w2 _ := hxP
        cases hf : batB (putL es d l)
        · have H := Lib.hid (show putF es d l = (es, false) from putF_no (fun e => by rw [e.2.2] at hf; cases hf))
          refine (sBatchesOk_c _ _ _ (putL es d l) _ HO.out.holds).mono ?_; rintro e w9 ⟨rfl, hx9⟩
          go_wp2
          go_ret2
          refine ⟨A2, c2, ?_, ?_, (hx2.trans hxo).trans hx9⟩
          · rw [H.out, HL.out]; rfl
          · rw [H.out, HL.out]; exact Own.ext H2.out (hxo.trans hx9)
        · have H := Lib.hid (putF_yes ⟨h1, h2, hf⟩)
          have LN := Lib.hid (show (putL es d l).length = 0 + 1 from by simp only [PL.out, List.length_append, List.length_cons, List.length_nil, HL.out])
          refine (sBatchesOk_c _ _ _ (putL es d l) _ HO.out.holds).mono ?_; rintro e w9 ⟨rfl, hx9⟩
          go_wp2
          go_ret2
          refine ⟨AP, cP, ?_, ?_, (hx2.trans hxo).trans hx9⟩
          rotate_left
          · rw [H.out]; show Own _ _ _ 2 _ (putL es d l).length _ _; rw [LN.out]; exact (HO.out.ext hx9).mono (Ext.len hx2)
          · rw [H.out]; simp only [LN.out]; rfl
    · have H := Lib.hid (show putF es d l = (es, false) from putF_no (fun e => h2 e.2.1))
      go_enter Try.func21, Try.ntmps21
      go_wp2_with (first | (at_builtin; refine wpList_cat w ((Ext.refl _).alloc _) rfl _ _ _ rfl 42 (.agg #[.int .i64 0, .int .i64 0]) 2 16 elInfo Try.underlying25 rfl (by omega) (some ⟨w.heap.size, 0, none⟩) 0 0 [] rfl (Own.lit (cs := #[]) (heap_alloc_new _ _) (Nat.zero_le _) rfl) _ _ _ _ rfl (Holds.ext (h) ((Ext.refl _).alloc _)) (Batch.all_one es) (by omega) (by omega) ?_; intro A2 c2 w2 ho2 hx2; simp only [Nat.zero_add, List.nil_append] at ho2) | (at_builtin; refine wpList_cat w2 ((Ext.refl _).alloc _) rfl _ _ _ rfl 42 (.agg #[.int .i64 0, .int .i64 0]) 2 16 elInfo Try.underlying25 rfl (by omega) (some ⟨w2.heap.size, 0, none⟩) 0 0 [] rfl (Own.lit (cs := #[]) (heap_alloc_new _ _) (Nat.zero_le _) rfl) _ _ _ _ rfl (Holds.ext (h.ext hx2) ((Ext.refl _).alloc _)) (Batch.all_one es) (by omega) (by omega) ?_; intro A4 c4 w4 ho4 hx4; simp only [Nat.zero_add, List.nil_append] at ho4))
      refine (sBatchesOk_c _ _ _ es _ (h.ext (hx2.trans hx4))).mono ?_; rintro e w5 ⟨rfl, hx5⟩
      go_wp2_with (go_at_call 30; refine (l01In_c _ _ _ _).mono ?_; rintro e w' ⟨rfl, rfl⟩)
      go_ret2
      refine ⟨A2, c2, ?_, ?_, (hx2.trans hx4).trans hx5⟩
      · rw [H.out, HL.out]; rfl
      · rw [H.out, HL.out]; exact ho2.ext (hx4.trans hx5)
  · have H := Lib.hid (show putF es d l = (es, false) from putF_no (fun e => h1 e.1))
    go_enter Try.func21, Try.ntmps21
    go_wp2_with (first | (at_builtin; refine wpList_cat w ((Ext.refl _).alloc _) rfl _ _ _ rfl 42 (.agg #[.int .i64 0, .int .i64 0]) 2 16 elInfo Try.underlying25 rfl (by omega) (some ⟨w.heap.size, 0, none⟩) 0 0 [] rfl (Own.lit (cs := #[]) (heap_alloc_new _ _) (Nat.zero_le _) rfl) _ _ _ _ rfl (Holds.ext (h) ((Ext.refl _).alloc _)) (Batch.all_one es) (by omega) (by omega) ?_; intro A2 c2 w2 ho2 hx2; simp only [Nat.zero_add, List.nil_append] at ho2) | (at_builtin; refine wpList_cat w2 ((Ext.refl _).alloc _) rfl _ _ _ rfl 42 (.agg #[.int .i64 0, .int .i64 0]) 2 16 elInfo Try.underlying25 rfl (by omega) (some ⟨w2.heap.size, 0, none⟩) 0 0 [] rfl (Own.lit (cs := #[]) (heap_alloc_new _ _) (Nat.zero_le _) rfl) _ _ _ _ rfl (Holds.ext (h.ext hx2) ((Ext.refl _).alloc _)) (Batch.all_one es) (by omega) (by omega) ?_; intro A4 c4 w4 ho4 hx4; simp only [Nat.zero_add, List.nil_append] at ho4))
    refine (sBatchesOk_c _ _ _ es _ (h.ext (hx2.trans hx4))).mono ?_; rintro e w5 ⟨rfl, hx5⟩
    go_wp2_with (go_at_call 30; refine (l01In_c _ _ _ _).mono ?_; rintro e w' ⟨rfl, rfl⟩)
    go_ret2
    refine ⟨A2, c2, ?_, ?_, (hx2.trans hx4).trans hx5⟩
    · rw [H.out, HL.out]; rfl
    · rw [H.out, HL.out]; exact ho2.ext (hx4.trans hx5)
end Go.Proofs.Ytecifmpkjegodaa
