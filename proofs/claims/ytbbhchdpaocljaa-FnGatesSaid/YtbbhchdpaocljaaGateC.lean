/-
  The contracts of TakeKey, HangKey and TurnGate, of the program and of the reference.
-/
import Derived.Test.YtbbhchdpaocljaaGateA
namespace Go.Proofs.Ytbbhchdpaocljaa
open Go.RowKit

theorem Gate.all_one (es : List Gate) : ∀ u ∈ Gate.all es, u.oneCell' = true := by
  intro u hu
  obtain ⟨e, _, he⟩ := List.mem_flatMap.1 hu
  simp only [Gate.cells, List.mem_cons, List.not_mem_nil, or_false] at he
  rcases he with rfl | rfl <;> rfl
theorem Gate.at_set (es : List Gate) (i j : Nat) (e : Gate) (hi : i < es.length) : Gate.at_ (es.set i e) j = if i = j then e else Gate.at_ es j := by
  by_cases h : i = j
  · subst h
    simp [Gate.at_, hi]
  · simp [Gate.at_, h, List.getElem?_set_ne h]
theorem Gate.all_ext {xs : List Value} {es : List Gate} (hl : xs.length = es.length * 2) (h : ∀ i, i < es.length → xs[i * 2]? = some (.bool (Gate.at_ es i).f0) ∧ xs[i * 2 + 1]? = some (.int .i64 (Gate.at_ es i).f1)) : xs = Gate.all es := by
  apply List.ext_getElem?
  intro q
  by_cases hq : q < es.length * 2
  · obtain ⟨i, r, hr, rfl⟩ : ∃ i r, r < 2 ∧ q = i * 2 + r := ⟨q / 2, q % 2, Nat.mod_lt _ (by omega), by omega⟩
    have hi : i < es.length := by omega
    rw [Gate.all_get es i r hi hr]
    match r, hr with
    | 0, _ => exact (h i hi).1
    | 1, _ => exact (h i hi).2
  · rw [List.getElem?_eq_none (by omega), List.getElem?_eq_none (by rw [Gate.all_len]; omega)]
theorem Gate.all_get0 (es : List Gate) (i : Nat) (h : i < es.length) : (Gate.all es)[i * 2]? = some (.bool (Gate.at_ es i).f0) := by have := Gate.all_get es i 0 h (by omega); simpa [Gate.cells] using this
theorem Gate.all_get1 (es : List Gate) (i : Nat) (h : i < es.length) : (Gate.all es)[i * 2 + 1]? = some (.int .i64 (Gate.at_ es i).f1) := by have := Gate.all_get es i 1 h (by omega); simpa [Gate.cells] using this
theorem Gate.set1 (es : List Gate) (i : Nat) (h : i < es.length) (x : Int) : (Gate.all es).set (i * 2 + 1) (.int .i64 x) = Gate.all (es.set i ⟨(Gate.at_ es i).f0, x⟩) := by
  refine Gate.all_ext (by simp [Gate.all_len]) fun j hj => ?_
  have hj' : j < es.length := by simpa using hj
  rw [Gate.at_set es i j _ h]
  by_cases e : i = j
  · subst e
    rw [List.getElem?_set_ne (by omega), Gate.all_get0 es i h, List.getElem?_set_self (by rw [Gate.all_len]; omega), if_pos rfl]
    exact ⟨rfl, rfl⟩
  · rw [List.getElem?_set_ne (by omega), List.getElem?_set_ne (by omega), if_neg e]
    exact ⟨Gate.all_get0 es j hj', Gate.all_get1 es j hj'⟩
theorem Gate.set0 (es : List Gate) (i : Nat) (h : i < es.length) (x : Bool) : (Gate.all es).set (i * 2) (.bool x) = Gate.all (es.set i ⟨x, (Gate.at_ es i).f1⟩) := by
  refine Gate.all_ext (by simp [Gate.all_len]) fun j hj => ?_
  have hj' : j < es.length := by simpa using hj
  rw [Gate.at_set es i j _ h]
  by_cases e : i = j
  · subst e
    rw [if_pos rfl]
    exact ⟨by rw [List.getElem?_set_self (by rw [Gate.all_len]; omega)], by rw [List.getElem?_set_ne (by omega), Gate.all_get1 es i h]⟩
  · rw [List.getElem?_set_ne (by omega), List.getElem?_set_ne (by omega), if_neg e]
    exact ⟨Gate.all_get0 es j hj', Gate.all_get1 es j hj'⟩

open Classical in
/-- gate k is changed, if the test of it says so -/
noncomputable def chF (t : Gate → Bool) (ch : Gate → Gate) (es : List Gate) (k p : Int) : List Gate × Bool :=
  if gatB es = true ∧ inB k 0 ((es.length : Int) - 1) = true ∧ inB p 1 999 = true ∧ t (Gate.at_ es k.toNat) = true then (es.set k.toNat (ch (Gate.at_ es k.toNat)), true) else (es, false)
theorem chF_no {t : Gate → Bool} {ch : Gate → Gate} {es : List Gate} {k p : Int} (h : ¬ (gatB es = true ∧ inB k 0 ((es.length : Int) - 1) = true ∧ inB p 1 999 = true ∧ t (Gate.at_ es k.toNat) = true)) : chF t ch es k p = (es, false) := if_neg h
theorem chF_yes {t : Gate → Bool} {ch : Gate → Gate} {es : List Gate} {k p : Int} (h : gatB es = true ∧ inB k 0 ((es.length : Int) - 1) = true ∧ inB p 1 999 = true ∧ t (Gate.at_ es k.toNat) = true) : chF t ch es k p = (es.set k.toNat (ch (Gate.at_ es k.toNat)), true) := if_pos h
theorem chF_len (t : Gate → Bool) (ch : Gate → Gate) (es : List Gate) (k p : Int) : (chF t ch es k p).1.length = es.length := by unfold chF; split <;> simp
theorem l22Can_c (A : Option Addr) (n c : Nat) (es : List Gate) (k p : Int) (w : World) (h : Holds w 2 A n c (Gate.all es)) :
    Calls Try.prog 38 #[.slice A n c, .int .i64 k, .int .i64 p] w (Ans (.bool (gatB es && inB k 0 ((n : Int) - 1) && inB p 1 999)) w) := by
  have hmx : n ≤ 9223372036854775807 := by have := h.2.1; have := h.2.2.1; unfold maxLen at this; omega
  cases h1 : gatB es
  · go_enter Try.func38, Try.ntmps38
    go_wp2_with (first | (go_at_call 11; refine (sGatesOk_c _ _ _ es _ h).mono ?_; rintro e w1 ⟨rfl, hx⟩; have hl := hx.len; (try simp only [World.size_alloc, World.size_setCell, World.size_drew, World.heap_drewN] at hl)) | (go_at_call 34; refine (l01In_c _ _ _ _).mono ?_; rintro e w' ⟨rfl, rfl⟩))
    go_ret
    exact ⟨by simp [h1], hx⟩
  · cases h2 : inB k 0 ((n : Int) - 1)
    · go_enter Try.func38, Try.ntmps38
      go_wp2_with (first | (go_at_call 11; refine (sGatesOk_c _ _ _ es _ h).mono ?_; rintro e w1 ⟨rfl, hx⟩; have hl := hx.len; (try simp only [World.size_alloc, World.size_setCell, World.size_drew, World.heap_drewN] at hl)) | (go_at_call 34; refine (l01In_c _ _ _ _).mono ?_; rintro e w' ⟨rfl, rfl⟩))
      go_ret
      exact ⟨by simp [h1, h2], hx⟩
    · go_enter Try.func38, Try.ntmps38
      go_wp2_with (first | (go_at_call 11; refine (sGatesOk_c _ _ _ es _ h).mono ?_; rintro e w1 ⟨rfl, hx⟩; have hl := hx.len; (try simp only [World.size_alloc, World.size_setCell, World.size_drew, World.heap_drewN] at hl)) | (go_at_call 34; refine (l01In_c _ _ _ _).mono ?_; rintro e w' ⟨rfl, rfl⟩))
      go_ret
      exact ⟨by simp [h1, h2], hx⟩
/-- what TakeKey answers -/
noncomputable def takeF (es : List Gate) (k p : Int) : List Gate × Bool := chF (fun e => e.f1 == 0) (fun e => ⟨e.f0, p⟩) es k p
set_option maxHeartbeats 1600000 in
theorem take_c (A : Option Addr) (n c : Nat) (es : List Gate) (k p : Int) (w : World) (h : Holds w 2 A n c (Gate.all es)) (hn : n ≤ 1048576) :
    Calls Try.prog 20 #[.slice A n c, .int .i64 k, .int .i64 p] w (FreshT 38 2 (takeF es k p).1.length (Gate.all (takeF es k p).1) [.bool (takeF es k p).2] w) := by
  have HL := Lib.hid (Gate.len h)
  by_cases h1 : gatB es = true
  · by_cases h2 : inB k 0 ((n : Int) - 1) = true
    · by_cases h3 : inB p 1 999 = true
      · obtain ⟨k0, k1⟩ := inB_yes h2
        obtain ⟨j, rfl⟩ := Int.eq_ofNat_of_zero_le k0
        have hj : j < n := by omega
        obtain ⟨b, off, hA, hb, hc⟩ := Gate.where_ h (by omega)
        subst hA
        obtain ⟨d0, d1⟩ := hc j hj
        have D0 := Lib.hid d0
        have D1 := Lib.hid d1
        have jk : ((j : Int)).toNat = j := by omega
        have JK := Lib.hid jk
        have kk : (j : Int) < (n : Int) := by omega
        clear hc d0 d1 jk
        cases t : ((Gate.at_ es j).f1 == 0)
        · have t' : ((Gate.at_ es j).f1 != 0) = true := by rw [bne, t]; rfl
          have H := Lib.hid (show takeF es (j : Int) p = (es, false) from chF_no (fun e => by have := e.2.2.2; rw [JK.out] at this; simp [t] at this))
          go_enter Try.func20, Try.ntmps20
          go_wp2_with (first | (at_builtin; refine wpList_cat _ (Ext.refl _) rfl _ _ _ rfl 38 (.agg #[.bool false, .int .i64 0]) 2 16 elInfo Try.underlying25 rfl (by omega) none 0 0 [] rfl (Own.nil_ _ _ _ _) _ _ _ _ rfl (h.ext ((Ext.refl _).alloc _)) (Gate.all_one es) (by omega) (by omega) ?_; intro A2 c2 w2 ho2 hx2; simp only [Nat.zero_add, List.nil_append] at ho2; have hbx := hx2.got (p := ⟨w.heap.size, 0, none⟩) (v := .int .i64 p) (by simp [go_sem])) | (go_at_call 13; refine (gatesOk_c _ _ _ es _ (h.ext (((Ext.refl _).alloc _).trans hx2))).mono ?_; rintro e w3 ⟨rfl, hx3⟩; have ho3 := ho2.ext hx3; have hby := hx3.got hbx; have hbl : w.heap.size < w3.heap.size := World.block_lt_of_cell? w3 _ hby; have hbn := Nat.ne_of_lt hbl; have hbm := Nat.ne_of_gt hbl; have e0 := ((((Ext.refl _).alloc _).trans hx2).trans hx3).got D0.out; have e1 := ((((Ext.refl _).alloc _).trans hx2).trans hx3).got D1.out) | (go_at_call 36; refine (within_c _ _ _ _).mono ?_; rintro e w' ⟨rfl, rfl⟩) | go_in)
          go_ret2
          refine ⟨A2, c2, ?_, ?_, (by have q := (((Ext.refl w).alloc _).trans hx2).trans hx3; first | exact q | exact q.alloc _ | exact (q.alloc _).alloc _)⟩
          · rw [H.out, HL.out]; rfl
          · rw [H.out, HL.out]; exact ((Own.ext ho3 (by first | exact Ext.refl _ | exact (Ext.refl _).alloc _)).mono (by simp))
        · have t' : ((Gate.at_ es j).f1 != 0) = false := by rw [bne, t]; rfl
          have H := Lib.hid (show takeF es (j : Int) p = (es.set j ⟨(Gate.at_ es j).f0, p⟩, true) from by have := chF_yes (t := fun e => e.f1 == 0) (ch := fun e => ⟨e.f0, p⟩) (es := es) (k := (j : Int)) (p := p) ⟨h1, by rw [HL.out]; exact h2, h3, by rw [JK.out]; simp [*]⟩; rw [JK.out] at this; exact this)
          go_enter Try.func20, Try.ntmps20
          go_wp2_with (first | (at_builtin; refine wpList_cat _ (Ext.refl _) rfl _ _ _ rfl 38 (.agg #[.bool false, .int .i64 0]) 2 16 elInfo Try.underlying25 rfl (by omega) none 0 0 [] rfl (Own.nil_ _ _ _ _) _ _ _ _ rfl (h.ext ((Ext.refl _).alloc _)) (Gate.all_one es) (by omega) (by omega) ?_; intro A2 c2 w2 ho2 hx2; simp only [Nat.zero_add, List.nil_append] at ho2; have hbx := hx2.got (p := ⟨w.heap.size, 0, none⟩) (v := .int .i64 p) (by simp [go_sem])) | (go_at_call 13; refine (gatesOk_c _ _ _ es _ (h.ext (((Ext.refl _).alloc _).trans hx2))).mono ?_; rintro e w3 ⟨rfl, hx3⟩; have ho3 := ho2.ext hx3; have hby := hx3.got hbx; have hbl : w.heap.size < w3.heap.size := World.block_lt_of_cell? w3 _ hby; have hbn := Nat.ne_of_lt hbl; have hbm := Nat.ne_of_gt hbl; have e0 := ((((Ext.refl _).alloc _).trans hx2).trans hx3).got D0.out; have e1 := ((((Ext.refl _).alloc _).trans hx2).trans hx3).got D1.out; obtain ⟨g, hA2, hg1, hg2⟩ := ho3.form (by omega); subst hA2; have HO := Lib.hid ho3; have hu1 := (World.ownsRow.cellAt HO.out (j * 2 + 1) (by omega)).trans (Gate.all_get1 es j (by rw [HL.out]; exact hj)); have hf1 := World.ownsRow.frozenAt HO.out (j * 2 + 1); clear ho3 ho2) | (go_at_call 36; refine (within_c _ _ _ _).mono ?_; rintro e w' ⟨rfl, rfl⟩) | go_in)
          go_ret2
          have hs := (World.ownsRow.stored HO.out (j * 2 + 1) (.int .i64 p)).1
          rw [Gate.set1 es j (by rw [HL.out]; exact hj)] at hs
          refine ⟨some ⟨g, 0, none⟩, c2, ?_, ?_, ?_⟩
          · rw [H.out]; simp only [List.length_set, HL.out]; rfl
          · rw [H.out]; simp only [List.length_set, HL.out]; exact (Own.ext (show Own _ _ _ _ _ _ _ _ from hs) (by first | exact Ext.refl _ | exact (Ext.refl _).alloc _)).mono (by simp only [World.size_alloc]; omega)
          · exact (by have q := Ext.setCell ((((Ext.refl w).alloc _).trans hx2).trans hx3) (p := ⟨g, j * 2 + 1, none⟩) (Nat.le_trans (by simp only [World.size_alloc]; omega) hg1) (.int .i64 p); first | exact q | exact q.alloc _)
      · have H := Lib.hid (show takeF es k p = (es, false) from chF_no (fun e => h3 e.2.2.1))
        go_enter Try.func20, Try.ntmps20
        go_wp2_with (first | (at_builtin; refine wpList_cat _ (Ext.refl _) rfl _ _ _ rfl 38 (.agg #[.bool false, .int .i64 0]) 2 16 elInfo Try.underlying25 rfl (by omega) none 0 0 [] rfl (Own.nil_ _ _ _ _) _ _ _ _ rfl (h.ext ((Ext.refl _).alloc _)) (Gate.all_one es) (by omega) (by omega) ?_; intro A2 c2 w2 ho2 hx2; simp only [Nat.zero_add, List.nil_append] at ho2; have hbx := hx2.got (p := ⟨w.heap.size, 0, none⟩) (v := .int .i64 p) (by simp [go_sem])) | (go_at_call 13; refine (gatesOk_c _ _ _ es _ (h.ext (((Ext.refl _).alloc _).trans hx2))).mono ?_; rintro e w3 ⟨rfl, hx3⟩; have ho3 := ho2.ext hx3; have hby := hx3.got hbx; have hbl : w.heap.size < w3.heap.size := World.block_lt_of_cell? w3 _ hby; have hbn := Nat.ne_of_lt hbl; have hbm := Nat.ne_of_gt hbl; skip) | (go_at_call 36; refine (within_c _ _ _ _).mono ?_; rintro e w' ⟨rfl, rfl⟩) | go_in)
        go_ret2
        refine ⟨A2, c2, ?_, ?_, (by have q := (((Ext.refl w).alloc _).trans hx2).trans hx3; first | exact q | exact q.alloc _ | exact (q.alloc _).alloc _)⟩
        · rw [H.out, HL.out]; rfl
        · rw [H.out, HL.out]; exact ((Own.ext ho3 (by first | exact Ext.refl _ | exact (Ext.refl _).alloc _)).mono (by simp))
    · have H := Lib.hid (show takeF es k p = (es, false) from chF_no (fun e => h2 (by rw [← HL.out]; exact e.2.1)))
      go_enter Try.func20, Try.ntmps20
      go_wp2_with (first | (at_builtin; refine wpList_cat _ (Ext.refl _) rfl _ _ _ rfl 38 (.agg #[.bool false, .int .i64 0]) 2 16 elInfo Try.underlying25 rfl (by omega) none 0 0 [] rfl (Own.nil_ _ _ _ _) _ _ _ _ rfl (h.ext ((Ext.refl _).alloc _)) (Gate.all_one es) (by omega) (by omega) ?_; intro A2 c2 w2 ho2 hx2; simp only [Nat.zero_add, List.nil_append] at ho2; have hbx := hx2.got (p := ⟨w.heap.size, 0, none⟩) (v := .int .i64 p) (by simp [go_sem])) | (go_at_call 13; refine (gatesOk_c _ _ _ es _ (h.ext (((Ext.refl _).alloc _).trans hx2))).mono ?_; rintro e w3 ⟨rfl, hx3⟩; have ho3 := ho2.ext hx3; have hby := hx3.got hbx; have hbl : w.heap.size < w3.heap.size := World.block_lt_of_cell? w3 _ hby; have hbn := Nat.ne_of_lt hbl; have hbm := Nat.ne_of_gt hbl; skip) | (go_at_call 36; refine (within_c _ _ _ _).mono ?_; rintro e w' ⟨rfl, rfl⟩) | go_in)
      go_ret2
      refine ⟨A2, c2, ?_, ?_, (by have q := (((Ext.refl w).alloc _).trans hx2).trans hx3; first | exact q | exact q.alloc _ | exact (q.alloc _).alloc _)⟩
      · rw [H.out, HL.out]; rfl
      · rw [H.out, HL.out]; exact ((Own.ext ho3 (by first | exact Ext.refl _ | exact (Ext.refl _).alloc _)).mono (by simp))
  · have H := Lib.hid (show takeF es k p = (es, false) from chF_no (fun e => h1 e.1))
    go_enter Try.func20, Try.ntmps20
    go_wp2_with (first | (at_builtin; refine wpList_cat _ (Ext.refl _) rfl _ _ _ rfl 38 (.agg #[.bool false, .int .i64 0]) 2 16 elInfo Try.underlying25 rfl (by omega) none 0 0 [] rfl (Own.nil_ _ _ _ _) _ _ _ _ rfl (h.ext ((Ext.refl _).alloc _)) (Gate.all_one es) (by omega) (by omega) ?_; intro A2 c2 w2 ho2 hx2; simp only [Nat.zero_add, List.nil_append] at ho2; have hbx := hx2.got (p := ⟨w.heap.size, 0, none⟩) (v := .int .i64 p) (by simp [go_sem])) | (go_at_call 13; refine (gatesOk_c _ _ _ es _ (h.ext (((Ext.refl _).alloc _).trans hx2))).mono ?_; rintro e w3 ⟨rfl, hx3⟩; have ho3 := ho2.ext hx3; have hby := hx3.got hbx; have hbl : w.heap.size < w3.heap.size := World.block_lt_of_cell? w3 _ hby; have hbn := Nat.ne_of_lt hbl; have hbm := Nat.ne_of_gt hbl; skip) | (go_at_call 36; refine (within_c _ _ _ _).mono ?_; rintro e w' ⟨rfl, rfl⟩) | go_in)
    go_ret2
    refine ⟨A2, c2, ?_, ?_, (by have q := (((Ext.refl w).alloc _).trans hx2).trans hx3; first | exact q | exact q.alloc _ | exact (q.alloc _).alloc _)⟩
    · rw [H.out, HL.out]; rfl
    · rw [H.out, HL.out]; exact ((Own.ext ho3 (by first | exact Ext.refl _ | exact (Ext.refl _).alloc _)).mono (by simp))
set_option maxHeartbeats 1600000 in
theorem sTake_c (A : Option Addr) (n c : Nat) (es : List Gate) (k p : Int) (w : World) (h : Holds w 2 A n c (Gate.all es)) (hn : n ≤ 1048576) :
    Calls Try.prog 19 #[.slice A n c, .int .i64 k, .int .i64 p] w (FreshT 38 2 (takeF es k p).1.length (Gate.all (takeF es k p).1) [.bool (takeF es k p).2] w) := by
  have HL := Lib.hid (Gate.len h)
  by_cases h1 : gatB es = true
  · by_cases h2 : inB k 0 ((n : Int) - 1) = true
    · by_cases h3 : inB p 1 999 = true
      · obtain ⟨k0, k1⟩ := inB_yes h2
        obtain ⟨j, rfl⟩ := Int.eq_ofNat_of_zero_le k0
        have hj : j < n := by omega
        obtain ⟨b, off, hA, hb, hc⟩ := Gate.where_ h (by omega)
        subst hA
        obtain ⟨d0, d1⟩ := hc j hj
        have D0 := Lib.hid d0
        have D1 := Lib.hid d1
        have jk : ((j : Int)).toNat = j := by omega
        have JK := Lib.hid jk
        have kk : (j : Int) < (n : Int) := by omega
        clear hc d0 d1 jk
        cases t : ((Gate.at_ es j).f1 == 0)
        · have t' : ((Gate.at_ es j).f1 != 0) = true := by rw [bne, t]; rfl
          have H := Lib.hid (show takeF es (j : Int) p = (es, false) from chF_no (fun e => by have := e.2.2.2; rw [JK.out] at this; simp [t] at this))
          go_enter Try.func19, Try.ntmps19
          go_wp2_with (first | (at_builtin; refine wpList_cat w ((Ext.refl _).alloc _) rfl _ _ _ rfl 38 (.agg #[.bool false, .int .i64 0]) 2 16 elInfo Try.underlying25 rfl (by omega) (some ⟨w.heap.size, 0, none⟩) 0 0 [] rfl (Own.lit (cs := #[]) (heap_alloc_new _ _) (by omega) rfl) _ _ _ _ rfl (h.ext ((Ext.refl _).alloc _)) (Gate.all_one es) (by omega) (by omega) ?_; intro A2 c2 w2 ho2 hx2; simp only [Nat.zero_add, List.nil_append] at ho2) | (go_at_call 38; refine (l22Can_c _ _ _ es _ _ _ (h.ext hx2)).mono ?_; rintro e w3 ⟨rfl, hx3⟩; have ho3 := ho2.ext hx3; have e0 := (hx2.trans hx3).got D0.out; have e1 := (hx2.trans hx3).got D1.out))
          go_ret2
          refine ⟨A2, c2, ?_, ?_, (hx2.trans hx3)⟩
          · rw [H.out, HL.out]; rfl
          · rw [H.out, HL.out]; exact ho3
        · have t' : ((Gate.at_ es j).f1 != 0) = false := by rw [bne, t]; rfl
          have H := Lib.hid (show takeF es (j : Int) p = (es.set j ⟨(Gate.at_ es j).f0, p⟩, true) from by have := chF_yes (t := fun e => e.f1 == 0) (ch := fun e => ⟨e.f0, p⟩) (es := es) (k := (j : Int)) (p := p) ⟨h1, by rw [HL.out]; exact h2, h3, by rw [JK.out]; simp [*]⟩; rw [JK.out] at this; exact this)
          go_enter Try.func19, Try.ntmps19
          go_wp2_with (first | (at_builtin; refine wpList_cat w ((Ext.refl _).alloc _) rfl _ _ _ rfl 38 (.agg #[.bool false, .int .i64 0]) 2 16 elInfo Try.underlying25 rfl (by omega) (some ⟨w.heap.size, 0, none⟩) 0 0 [] rfl (Own.lit (cs := #[]) (heap_alloc_new _ _) (by omega) rfl) _ _ _ _ rfl (h.ext ((Ext.refl _).alloc _)) (Gate.all_one es) (by omega) (by omega) ?_; intro A2 c2 w2 ho2 hx2; simp only [Nat.zero_add, List.nil_append] at ho2) | (go_at_call 38; refine (l22Can_c _ _ _ es _ _ _ (h.ext hx2)).mono ?_; rintro e w3 ⟨rfl, hx3⟩; have ho3 := ho2.ext hx3; have e0 := (hx2.trans hx3).got D0.out; have e1 := (hx2.trans hx3).got D1.out; obtain ⟨g, hA2, hg1, hg2⟩ := ho3.form (by omega); subst hA2; have HO := Lib.hid ho3; have hu1 := (World.ownsRow.cellAt HO.out (j * 2 + 1) (by omega)).trans (Gate.all_get1 es j (by rw [HL.out]; exact hj)); have hf1 := World.ownsRow.frozenAt HO.out (j * 2 + 1); clear ho3 ho2))
          go_ret2
          have hs := (World.ownsRow.stored HO.out (j * 2 + 1) (.int .i64 p)).1
          rw [Gate.set1 es j (by rw [HL.out]; exact hj)] at hs
          refine ⟨some ⟨g, 0, none⟩, c2, ?_, ?_, ?_⟩
          · rw [H.out]; simp only [List.length_set, HL.out]; rfl
          · rw [H.out]; simp only [List.length_set, HL.out]; exact hs
          · exact (Ext.setCell (hx2.trans hx3) hg1 _)
      · have H := Lib.hid (show takeF es k p = (es, false) from chF_no (fun e => h3 e.2.2.1))
        go_enter Try.func19, Try.ntmps19
        go_wp2_with (first | (at_builtin; refine wpList_cat w ((Ext.refl _).alloc _) rfl _ _ _ rfl 38 (.agg #[.bool false, .int .i64 0]) 2 16 elInfo Try.underlying25 rfl (by omega) (some ⟨w.heap.size, 0, none⟩) 0 0 [] rfl (Own.lit (cs := #[]) (heap_alloc_new _ _) (by omega) rfl) _ _ _ _ rfl (h.ext ((Ext.refl _).alloc _)) (Gate.all_one es) (by omega) (by omega) ?_; intro A2 c2 w2 ho2 hx2; simp only [Nat.zero_add, List.nil_append] at ho2) | (go_at_call 38; refine (l22Can_c _ _ _ es _ _ _ (h.ext hx2)).mono ?_; rintro e w3 ⟨rfl, hx3⟩; have ho3 := ho2.ext hx3; skip))
        go_ret2
        refine ⟨A2, c2, ?_, ?_, (hx2.trans hx3)⟩
        · rw [H.out, HL.out]; rfl
        · rw [H.out, HL.out]; exact ho3
    · have H := Lib.hid (show takeF es k p = (es, false) from chF_no (fun e => h2 (by rw [← HL.out]; exact e.2.1)))
      go_enter Try.func19, Try.ntmps19
      go_wp2_with (first | (at_builtin; refine wpList_cat w ((Ext.refl _).alloc _) rfl _ _ _ rfl 38 (.agg #[.bool false, .int .i64 0]) 2 16 elInfo Try.underlying25 rfl (by omega) (some ⟨w.heap.size, 0, none⟩) 0 0 [] rfl (Own.lit (cs := #[]) (heap_alloc_new _ _) (by omega) rfl) _ _ _ _ rfl (h.ext ((Ext.refl _).alloc _)) (Gate.all_one es) (by omega) (by omega) ?_; intro A2 c2 w2 ho2 hx2; simp only [Nat.zero_add, List.nil_append] at ho2) | (go_at_call 38; refine (l22Can_c _ _ _ es _ _ _ (h.ext hx2)).mono ?_; rintro e w3 ⟨rfl, hx3⟩; have ho3 := ho2.ext hx3; skip))
      go_ret2
      refine ⟨A2, c2, ?_, ?_, (hx2.trans hx3)⟩
      · rw [H.out, HL.out]; rfl
      · rw [H.out, HL.out]; exact ho3
  · have H := Lib.hid (show takeF es k p = (es, false) from chF_no (fun e => h1 e.1))
    go_enter Try.func19, Try.ntmps19
    go_wp2_with (first | (at_builtin; refine wpList_cat w ((Ext.refl _).alloc _) rfl _ _ _ rfl 38 (.agg #[.bool false, .int .i64 0]) 2 16 elInfo Try.underlying25 rfl (by omega) (some ⟨w.heap.size, 0, none⟩) 0 0 [] rfl (Own.lit (cs := #[]) (heap_alloc_new _ _) (by omega) rfl) _ _ _ _ rfl (h.ext ((Ext.refl _).alloc _)) (Gate.all_one es) (by omega) (by omega) ?_; intro A2 c2 w2 ho2 hx2; simp only [Nat.zero_add, List.nil_append] at ho2) | (go_at_call 38; refine (l22Can_c _ _ _ es _ _ _ (h.ext hx2)).mono ?_; rintro e w3 ⟨rfl, hx3⟩; have ho3 := ho2.ext hx3; skip))
    go_ret2
    refine ⟨A2, c2, ?_, ?_, (hx2.trans hx3)⟩
    · rw [H.out, HL.out]; rfl
    · rw [H.out, HL.out]; exact ho3
/-- what HangKey answers -/
noncomputable def hangF (es : List Gate) (k p : Int) : List Gate × Bool := chF (fun e => e.f1 == p && !e.f0) (fun e => ⟨e.f0, 0⟩) es k p
set_option maxHeartbeats 1600000 in
theorem hang_c (A : Option Addr) (n c : Nat) (es : List Gate) (k p : Int) (w : World) (h : Holds w 2 A n c (Gate.all es)) (hn : n ≤ 1048576) :
    Calls Try.prog 16 #[.slice A n c, .int .i64 k, .int .i64 p] w (FreshT 38 2 (hangF es k p).1.length (Gate.all (hangF es k p).1) [.bool (hangF es k p).2] w) := by
  have HL := Lib.hid (Gate.len h)
  by_cases h1 : gatB es = true
  · by_cases h2 : inB k 0 ((n : Int) - 1) = true
    · by_cases h3 : inB p 1 999 = true
      · obtain ⟨k0, k1⟩ := inB_yes h2
        obtain ⟨j, rfl⟩ := Int.eq_ofNat_of_zero_le k0
        have hj : j < n := by omega
        obtain ⟨b, off, hA, hb, hc⟩ := Gate.where_ h (by omega)
        subst hA
        obtain ⟨d0, d1⟩ := hc j hj
        have D0 := Lib.hid d0
        have D1 := Lib.hid d1
        have jk : ((j : Int)).toNat = j := by omega
        have JK := Lib.hid jk
        have kk : (j : Int) < (n : Int) := by omega
        clear hc d0 d1 jk
        cases t : ((Gate.at_ es j).f1 == p)
        · have t' : ((Gate.at_ es j).f1 != p) = true := by rw [bne, t]; rfl
          have H := Lib.hid (show hangF es (j : Int) p = (es, false) from chF_no (fun e => by have := e.2.2.2; rw [JK.out] at this; simp [t] at this))
          go_enter Try.func16, Try.ntmps16
          go_wp2_with (first | (at_builtin; refine wpList_cat _ (Ext.refl _) rfl _ _ _ rfl 38 (.agg #[.bool false, .int .i64 0]) 2 16 elInfo Try.underlying25 rfl (by omega) none 0 0 [] rfl (Own.nil_ _ _ _ _) _ _ _ _ rfl (h.ext ((Ext.refl _).alloc _)) (Gate.all_one es) (by omega) (by omega) ?_; intro A2 c2 w2 ho2 hx2; simp only [Nat.zero_add, List.nil_append] at ho2; have hbx := hx2.got (p := ⟨w.heap.size, 0, none⟩) (v := .int .i64 p) (by simp [go_sem])) | (go_at_call 13; refine (gatesOk_c _ _ _ es _ (h.ext (((Ext.refl _).alloc _).trans hx2))).mono ?_; rintro e w3 ⟨rfl, hx3⟩; have ho3 := ho2.ext hx3; have hby := hx3.got hbx; have hbl : w.heap.size < w3.heap.size := World.block_lt_of_cell? w3 _ hby; have hbn := Nat.ne_of_lt hbl; have hbm := Nat.ne_of_gt hbl; have e0 := ((((Ext.refl _).alloc _).trans hx2).trans hx3).got D0.out; have e1 := ((((Ext.refl _).alloc _).trans hx2).trans hx3).got D1.out) | (go_at_call 36; refine (within_c _ _ _ _).mono ?_; rintro e w' ⟨rfl, rfl⟩) | go_in)
          go_ret2
          refine ⟨A2, c2, ?_, ?_, (by have q := (((Ext.refl w).alloc _).trans hx2).trans hx3; first | exact q | exact q.alloc _ | exact (q.alloc _).alloc _)⟩
          · rw [H.out, HL.out]; rfl
          · rw [H.out, HL.out]; exact ((Own.ext ho3 (by first | exact Ext.refl _ | exact (Ext.refl _).alloc _)).mono (by simp))
        · have t' : ((Gate.at_ es j).f1 != p) = false := by rw [bne, t]; rfl
          cases t2 : (Gate.at_ es j).f0
          · have H := Lib.hid (show hangF es (j : Int) p = (es.set j ⟨false, 0⟩, true) from by have := chF_yes (t := fun e => e.f1 == p && !e.f0) (ch := fun e => ⟨e.f0, 0⟩) (es := es) (k := (j : Int)) (p := p) ⟨h1, by rw [HL.out]; exact h2, h3, by rw [JK.out]; simp [*]⟩; rw [JK.out] at this; simp only [t2] at this; exact this)
            go_enter Try.func16, Try.ntmps16
            go_wp2_with (first | (at_builtin; refine wpList_cat _ (Ext.refl _) rfl _ _ _ rfl 38 (.agg #[.bool false, .int .i64 0]) 2 16 elInfo Try.underlying25 rfl (by omega) none 0 0 [] rfl (Own.nil_ _ _ _ _) _ _ _ _ rfl (h.ext ((Ext.refl _).alloc _)) (Gate.all_one es) (by omega) (by omega) ?_; intro A2 c2 w2 ho2 hx2; simp only [Nat.zero_add, List.nil_append] at ho2; have hbx := hx2.got (p := ⟨w.heap.size, 0, none⟩) (v := .int .i64 p) (by simp [go_sem])) | (go_at_call 13; refine (gatesOk_c _ _ _ es _ (h.ext (((Ext.refl _).alloc _).trans hx2))).mono ?_; rintro e w3 ⟨rfl, hx3⟩; have ho3 := ho2.ext hx3; have hby := hx3.got hbx; have hbl : w.heap.size < w3.heap.size := World.block_lt_of_cell? w3 _ hby; have hbn := Nat.ne_of_lt hbl; have hbm := Nat.ne_of_gt hbl; have e0 := ((((Ext.refl _).alloc _).trans hx2).trans hx3).got D0.out; have e1 := ((((Ext.refl _).alloc _).trans hx2).trans hx3).got D1.out; obtain ⟨g, hA2, hg1, hg2⟩ := ho3.form (by omega); subst hA2; have HO := Lib.hid ho3; have hu1 := (World.ownsRow.cellAt HO.out (j * 2 + 1) (by omega)).trans (Gate.all_get1 es j (by rw [HL.out]; exact hj)); have hf1 := World.ownsRow.frozenAt HO.out (j * 2 + 1); clear ho3 ho2) | (go_at_call 36; refine (within_c _ _ _ _).mono ?_; rintro e w' ⟨rfl, rfl⟩) | go_in)
            go_ret2
            have hs := (World.ownsRow.stored HO.out (j * 2 + 1) (.int .i64 0)).1
            rw [Gate.set1 es j (by rw [HL.out]; exact hj), t2] at hs
            refine ⟨some ⟨g, 0, none⟩, c2, ?_, ?_, ?_⟩
            · rw [H.out]; simp only [List.length_set, HL.out]; rfl
            · rw [H.out]; simp only [List.length_set, HL.out]; exact (Own.ext (show Own _ _ _ _ _ _ _ _ from hs) (by first | exact Ext.refl _ | exact (Ext.refl _).alloc _)).mono (by simp only [World.size_alloc]; omega)
            · exact (by have q := Ext.setCell ((((Ext.refl w).alloc _).trans hx2).trans hx3) (p := ⟨g, j * 2 + 1, none⟩) (Nat.le_trans (by simp only [World.size_alloc]; omega) hg1) (.int .i64 0); first | exact q | exact q.alloc _)
          · have H := Lib.hid (show hangF es (j : Int) p = (es, false) from chF_no (fun e => by have := e.2.2.2; rw [JK.out] at this; simp [t2] at this))
            go_enter Try.func16, Try.ntmps16
            go_wp2_with (first | (at_builtin; refine wpList_cat _ (Ext.refl _) rfl _ _ _ rfl 38 (.agg #[.bool false, .int .i64 0]) 2 16 elInfo Try.underlying25 rfl (by omega) none 0 0 [] rfl (Own.nil_ _ _ _ _) _ _ _ _ rfl (h.ext ((Ext.refl _).alloc _)) (Gate.all_one es) (by omega) (by omega) ?_; intro A2 c2 w2 ho2 hx2; simp only [Nat.zero_add, List.nil_append] at ho2; have hbx := hx2.got (p := ⟨w.heap.size, 0, none⟩) (v := .int .i64 p) (by simp [go_sem])) | (go_at_call 13; refine (gatesOk_c _ _ _ es _ (h.ext (((Ext.refl _).alloc _).trans hx2))).mono ?_; rintro e w3 ⟨rfl, hx3⟩; have ho3 := ho2.ext hx3; have hby := hx3.got hbx; have hbl : w.heap.size < w3.heap.size := World.block_lt_of_cell? w3 _ hby; have hbn := Nat.ne_of_lt hbl; have hbm := Nat.ne_of_gt hbl; have e0 := ((((Ext.refl _).alloc _).trans hx2).trans hx3).got D0.out; have e1 := ((((Ext.refl _).alloc _).trans hx2).trans hx3).got D1.out) | (go_at_call 36; refine (within_c _ _ _ _).mono ?_; rintro e w' ⟨rfl, rfl⟩) | go_in)
            go_ret2
            refine ⟨A2, c2, ?_, ?_, (by have q := (((Ext.refl w).alloc _).trans hx2).trans hx3; first | exact q | exact q.alloc _ | exact (q.alloc _).alloc _)⟩
            · rw [H.out, HL.out]; rfl
            · rw [H.out, HL.out]; exact ((Own.ext ho3 (by first | exact Ext.refl _ | exact (Ext.refl _).alloc _)).mono (by simp))
      · have H := Lib.hid (show hangF es k p = (es, false) from chF_no (fun e => h3 e.2.2.1))
        go_enter Try.func16, Try.ntmps16
        go_wp2_with (first | (at_builtin; refine wpList_cat _ (Ext.refl _) rfl _ _ _ rfl 38 (.agg #[.bool false, .int .i64 0]) 2 16 elInfo Try.underlying25 rfl (by omega) none 0 0 [] rfl (Own.nil_ _ _ _ _) _ _ _ _ rfl (h.ext ((Ext.refl _).alloc _)) (Gate.all_one es) (by omega) (by omega) ?_; intro A2 c2 w2 ho2 hx2; simp only [Nat.zero_add, List.nil_append] at ho2; have hbx := hx2.got (p := ⟨w.heap.size, 0, none⟩) (v := .int .i64 p) (by simp [go_sem])) | (go_at_call 13; refine (gatesOk_c _ _ _ es _ (h.ext (((Ext.refl _).alloc _).trans hx2))).mono ?_; rintro e w3 ⟨rfl, hx3⟩; have ho3 := ho2.ext hx3; have hby := hx3.got hbx; have hbl : w.heap.size < w3.heap.size := World.block_lt_of_cell? w3 _ hby; have hbn := Nat.ne_of_lt hbl; have hbm := Nat.ne_of_gt hbl; skip) | (go_at_call 36; refine (within_c _ _ _ _).mono ?_; rintro e w' ⟨rfl, rfl⟩) | go_in)
        go_ret2
        refine ⟨A2, c2, ?_, ?_, (by have q := (((Ext.refl w).alloc _).trans hx2).trans hx3; first | exact q | exact q.alloc _ | exact (q.alloc _).alloc _)⟩
        · rw [H.out, HL.out]; rfl
        · rw [H.out, HL.out]; exact ((Own.ext ho3 (by first | exact Ext.refl _ | exact (Ext.refl _).alloc _)).mono (by simp))
    · have H := Lib.hid (show hangF es k p = (es, false) from chF_no (fun e => h2 (by rw [← HL.out]; exact e.2.1)))
      go_enter Try.func16, Try.ntmps16
      go_wp2_with (first | (at_builtin; refine wpList_cat _ (Ext.refl _) rfl _ _ _ rfl 38 (.agg #[.bool false, .int .i64 0]) 2 16 elInfo Try.underlying25 rfl (by omega) none 0 0 [] rfl (Own.nil_ _ _ _ _) _ _ _ _ rfl (h.ext ((Ext.refl _).alloc _)) (Gate.all_one es) (by omega) (by omega) ?_; intro A2 c2 w2 ho2 hx2; simp only [Nat.zero_add, List.nil_append] at ho2; have hbx := hx2.got (p := ⟨w.heap.size, 0, none⟩) (v := .int .i64 p) (by simp [go_sem])) | (go_at_call 13; refine (gatesOk_c _ _ _ es _ (h.ext (((Ext.refl _).alloc _).trans hx2))).mono ?_; rintro e w3 ⟨rfl, hx3⟩; have ho3 := ho2.ext hx3; have hby := hx3.got hbx; have hbl : w.heap.size < w3.heap.size := World.block_lt_of_cell? w3 _ hby; have hbn := Nat.ne_of_lt hbl; have hbm := Nat.ne_of_gt hbl; skip) | (go_at_call 36; refine (within_c _ _ _ _).mono ?_; rintro e w' ⟨rfl, rfl⟩) | go_in)
      go_ret2
      refine ⟨A2, c2, ?_, ?_, (by have q := (((Ext.refl w).alloc _).trans hx2).trans hx3; first | exact q | exact q.alloc _ | exact (q.alloc _).alloc _)⟩
      · rw [H.out, HL.out]; rfl
      · rw [H.out, HL.out]; exact ((Own.ext ho3 (by first | exact Ext.refl _ | exact (Ext.refl _).alloc _)).mono (by simp))
  · have H := Lib.hid (show hangF es k p = (es, false) from chF_no (fun e => h1 e.1))
    go_enter Try.func16, Try.ntmps16
    go_wp2_with (first | (at_builtin; refine wpList_cat _ (Ext.refl _) rfl _ _ _ rfl 38 (.agg #[.bool false, .int .i64 0]) 2 16 elInfo Try.underlying25 rfl (by omega) none 0 0 [] rfl (Own.nil_ _ _ _ _) _ _ _ _ rfl (h.ext ((Ext.refl _).alloc _)) (Gate.all_one es) (by omega) (by omega) ?_; intro A2 c2 w2 ho2 hx2; simp only [Nat.zero_add, List.nil_append] at ho2; have hbx := hx2.got (p := ⟨w.heap.size, 0, none⟩) (v := .int .i64 p) (by simp [go_sem])) | (go_at_call 13; refine (gatesOk_c _ _ _ es _ (h.ext (((Ext.refl _).alloc _).trans hx2))).mono ?_; rintro e w3 ⟨rfl, hx3⟩; have ho3 := ho2.ext hx3; have hby := hx3.got hbx; have hbl : w.heap.size < w3.heap.size := World.block_lt_of_cell? w3 _ hby; have hbn := Nat.ne_of_lt hbl; have hbm := Nat.ne_of_gt hbl; skip) | (go_at_call 36; refine (within_c _ _ _ _).mono ?_; rintro e w' ⟨rfl, rfl⟩) | go_in)
    go_ret2
    refine ⟨A2, c2, ?_, ?_, (by have q := (((Ext.refl w).alloc _).trans hx2).trans hx3; first | exact q | exact q.alloc _ | exact (q.alloc _).alloc _)⟩
    · rw [H.out, HL.out]; rfl
    · rw [H.out, HL.out]; exact ((Own.ext ho3 (by first | exact Ext.refl _ | exact (Ext.refl _).alloc _)).mono (by simp))
set_option maxHeartbeats 1600000 in
theorem sHang_c (A : Option Addr) (n c : Nat) (es : List Gate) (k p : Int) (w : World) (h : Holds w 2 A n c (Gate.all es)) (hn : n ≤ 1048576) :
    Calls Try.prog 15 #[.slice A n c, .int .i64 k, .int .i64 p] w (FreshT 38 2 (hangF es k p).1.length (Gate.all (hangF es k p).1) [.bool (hangF es k p).2] w) := by
  have HL := Lib.hid (Gate.len h)
  by_cases h1 : gatB es = true
  · by_cases h2 : inB k 0 ((n : Int) - 1) = true
    · by_cases h3 : inB p 1 999 = true
      · obtain ⟨k0, k1⟩ := inB_yes h2
        obtain ⟨j, rfl⟩ := Int.eq_ofNat_of_zero_le k0
        have hj : j < n := by omega
        obtain ⟨b, off, hA, hb, hc⟩ := Gate.where_ h (by omega)
        subst hA
        obtain ⟨d0, d1⟩ := hc j hj
        have D0 := Lib.hid d0
        have D1 := Lib.hid d1
        have jk : ((j : Int)).toNat = j := by omega
        have JK := Lib.hid jk
        have kk : (j : Int) < (n : Int) := by omega
        clear hc d0 d1 jk
        cases t : ((Gate.at_ es j).f1 == p)
        · have t' : ((Gate.at_ es j).f1 != p) = true := by rw [bne, t]; rfl
          have H := Lib.hid (show hangF es (j : Int) p = (es, false) from chF_no (fun e => by have := e.2.2.2; rw [JK.out] at this; simp [t] at this))
          go_enter Try.func15, Try.ntmps15
          go_wp2_with (first | (at_builtin; refine wpList_cat w ((Ext.refl _).alloc _) rfl _ _ _ rfl 38 (.agg #[.bool false, .int .i64 0]) 2 16 elInfo Try.underlying25 rfl (by omega) (some ⟨w.heap.size, 0, none⟩) 0 0 [] rfl (Own.lit (cs := #[]) (heap_alloc_new _ _) (by omega) rfl) _ _ _ _ rfl (h.ext ((Ext.refl _).alloc _)) (Gate.all_one es) (by omega) (by omega) ?_; intro A2 c2 w2 ho2 hx2; simp only [Nat.zero_add, List.nil_append] at ho2) | (go_at_call 38; refine (l22Can_c _ _ _ es _ _ _ (h.ext hx2)).mono ?_; rintro e w3 ⟨rfl, hx3⟩; have ho3 := ho2.ext hx3; have e0 := (hx2.trans hx3).got D0.out; have e1 := (hx2.trans hx3).got D1.out))
          go_ret2
          refine ⟨A2, c2, ?_, ?_, (hx2.trans hx3)⟩
          · rw [H.out, HL.out]; rfl
          · rw [H.out, HL.out]; exact ho3
        · have t' : ((Gate.at_ es j).f1 != p) = false := by rw [bne, t]; rfl
          cases t2 : (Gate.at_ es j).f0
          · have H := Lib.hid (show hangF es (j : Int) p = (es.set j ⟨false, 0⟩, true) from by have := chF_yes (t := fun e => e.f1 == p && !e.f0) (ch := fun e => ⟨e.f0, 0⟩) (es := es) (k := (j : Int)) (p := p) ⟨h1, by rw [HL.out]; exact h2, h3, by rw [JK.out]; simp [*]⟩; rw [JK.out] at this; simp only [t2] at this; exact this)
            go_enter Try.func15, Try.ntmps15
            go_wp2_with (first | (at_builtin; refine wpList_cat w ((Ext.refl _).alloc _) rfl _ _ _ rfl 38 (.agg #[.bool false, .int .i64 0]) 2 16 elInfo Try.underlying25 rfl (by omega) (some ⟨w.heap.size, 0, none⟩) 0 0 [] rfl (Own.lit (cs := #[]) (heap_alloc_new _ _) (by omega) rfl) _ _ _ _ rfl (h.ext ((Ext.refl _).alloc _)) (Gate.all_one es) (by omega) (by omega) ?_; intro A2 c2 w2 ho2 hx2; simp only [Nat.zero_add, List.nil_append] at ho2) | (go_at_call 38; refine (l22Can_c _ _ _ es _ _ _ (h.ext hx2)).mono ?_; rintro e w3 ⟨rfl, hx3⟩; have ho3 := ho2.ext hx3; have e0 := (hx2.trans hx3).got D0.out; have e1 := (hx2.trans hx3).got D1.out; obtain ⟨g, hA2, hg1, hg2⟩ := ho3.form (by omega); subst hA2; have HO := Lib.hid ho3; have hu1 := (World.ownsRow.cellAt HO.out (j * 2 + 1) (by omega)).trans (Gate.all_get1 es j (by rw [HL.out]; exact hj)); have hf1 := World.ownsRow.frozenAt HO.out (j * 2 + 1); clear ho3 ho2))
            go_ret2
            have hs := (World.ownsRow.stored HO.out (j * 2 + 1) (.int .i64 0)).1
            rw [Gate.set1 es j (by rw [HL.out]; exact hj), t2] at hs
            refine ⟨some ⟨g, 0, none⟩, c2, ?_, ?_, ?_⟩
            · rw [H.out]; simp only [List.length_set, HL.out]; rfl
            · rw [H.out]; simp only [List.length_set, HL.out]; exact hs
            · exact (Ext.setCell (hx2.trans hx3) hg1 _)
          · have H := Lib.hid (show hangF es (j : Int) p = (es, false) from chF_no (fun e => by have := e.2.2.2; rw [JK.out] at this; simp [t2] at this))
            go_enter Try.func15, Try.ntmps15
            go_wp2_with (first | (at_builtin; refine wpList_cat w ((Ext.refl _).alloc _) rfl _ _ _ rfl 38 (.agg #[.bool false, .int .i64 0]) 2 16 elInfo Try.underlying25 rfl (by omega) (some ⟨w.heap.size, 0, none⟩) 0 0 [] rfl (Own.lit (cs := #[]) (heap_alloc_new _ _) (by omega) rfl) _ _ _ _ rfl (h.ext ((Ext.refl _).alloc _)) (Gate.all_one es) (by omega) (by omega) ?_; intro A2 c2 w2 ho2 hx2; simp only [Nat.zero_add, List.nil_append] at ho2) | (go_at_call 38; refine (l22Can_c _ _ _ es _ _ _ (h.ext hx2)).mono ?_; rintro e w3 ⟨rfl, hx3⟩; have ho3 := ho2.ext hx3; have e0 := (hx2.trans hx3).got D0.out; have e1 := (hx2.trans hx3).got D1.out))
            go_ret2
            refine ⟨A2, c2, ?_, ?_, (hx2.trans hx3)⟩
            · rw [H.out, HL.out]; rfl
            · rw [H.out, HL.out]; exact ho3
      · have H := Lib.hid (show hangF es k p = (es, false) from chF_no (fun e => h3 e.2.2.1))
        go_enter Try.func15, Try.ntmps15
        go_wp2_with (first | (at_builtin; refine wpList_cat w ((Ext.refl _).alloc _) rfl _ _ _ rfl 38 (.agg #[.bool false, .int .i64 0]) 2 16 elInfo Try.underlying25 rfl (by omega) (some ⟨w.heap.size, 0, none⟩) 0 0 [] rfl (Own.lit (cs := #[]) (heap_alloc_new _ _) (by omega) rfl) _ _ _ _ rfl (h.ext ((Ext.refl _).alloc _)) (Gate.all_one es) (by omega) (by omega) ?_; intro A2 c2 w2 ho2 hx2; simp only [Nat.zero_add, List.nil_append] at ho2) | (go_at_call 38; refine (l22Can_c _ _ _ es _ _ _ (h.ext hx2)).mono ?_; rintro e w3 ⟨rfl, hx3⟩; have ho3 := ho2.ext hx3; skip))
        go_ret2
        refine ⟨A2, c2, ?_, ?_, (hx2.trans hx3)⟩
        · rw [H.out, HL.out]; rfl
        · rw [H.out, HL.out]; exact ho3
    · have H := Lib.hid (show hangF es k p = (es, false) from chF_no (fun e => h2 (by rw [← HL.out]; exact e.2.1)))
      go_enter Try.func15, Try.ntmps15
      go_wp2_with (first | (at_builtin; refine wpList_cat w ((Ext.refl _).alloc _) rfl _ _ _ rfl 38 (.agg #[.bool false, .int .i64 0]) 2 16 elInfo Try.underlying25 rfl (by omega) (some ⟨w.heap.size, 0, none⟩) 0 0 [] rfl (Own.lit (cs := #[]) (heap_alloc_new _ _) (by omega) rfl) _ _ _ _ rfl (h.ext ((Ext.refl _).alloc _)) (Gate.all_one es) (by omega) (by omega) ?_; intro A2 c2 w2 ho2 hx2; simp only [Nat.zero_add, List.nil_append] at ho2) | (go_at_call 38; refine (l22Can_c _ _ _ es _ _ _ (h.ext hx2)).mono ?_; rintro e w3 ⟨rfl, hx3⟩; have ho3 := ho2.ext hx3; skip))
      go_ret2
      refine ⟨A2, c2, ?_, ?_, (hx2.trans hx3)⟩
      · rw [H.out, HL.out]; rfl
      · rw [H.out, HL.out]; exact ho3
  · have H := Lib.hid (show hangF es k p = (es, false) from chF_no (fun e => h1 e.1))
    go_enter Try.func15, Try.ntmps15
    go_wp2_with (first | (at_builtin; refine wpList_cat w ((Ext.refl _).alloc _) rfl _ _ _ rfl 38 (.agg #[.bool false, .int .i64 0]) 2 16 elInfo Try.underlying25 rfl (by omega) (some ⟨w.heap.size, 0, none⟩) 0 0 [] rfl (Own.lit (cs := #[]) (heap_alloc_new _ _) (by omega) rfl) _ _ _ _ rfl (h.ext ((Ext.refl _).alloc _)) (Gate.all_one es) (by omega) (by omega) ?_; intro A2 c2 w2 ho2 hx2; simp only [Nat.zero_add, List.nil_append] at ho2) | (go_at_call 38; refine (l22Can_c _ _ _ es _ _ _ (h.ext hx2)).mono ?_; rintro e w3 ⟨rfl, hx3⟩; have ho3 := ho2.ext hx3; skip))
    go_ret2
    refine ⟨A2, c2, ?_, ?_, (hx2.trans hx3)⟩
    · rw [H.out, HL.out]; rfl
    · rw [H.out, HL.out]; exact ho3
/-- what TurnGate answers -/
noncomputable def turnF (es : List Gate) (k p : Int) : List Gate × Bool := chF (fun e => e.f1 == p) (fun e => ⟨!e.f0, e.f1⟩) es k p
set_option maxHeartbeats 1600000 in
theorem turn_c (A : Option Addr) (n c : Nat) (es : List Gate) (k p : Int) (w : World) (h : Holds w 2 A n c (Gate.all es)) (hn : n ≤ 1048576) :
    Calls Try.prog 22 #[.slice A n c, .int .i64 k, .int .i64 p] w (FreshT 38 2 (turnF es k p).1.length (Gate.all (turnF es k p).1) [.bool (turnF es k p).2] w) := by
  have HL := Lib.hid (Gate.len h)
  by_cases h1 : gatB es = true
  · by_cases h2 : inB k 0 ((n : Int) - 1) = true
    · by_cases h3 : inB p 1 999 = true
      · obtain ⟨k0, k1⟩ := inB_yes h2
        obtain ⟨j, rfl⟩ := Int.eq_ofNat_of_zero_le k0
        have hj : j < n := by omega
        obtain ⟨b, off, hA, hb, hc⟩ := Gate.where_ h (by omega)
        subst hA
        obtain ⟨d0, d1⟩ := hc j hj
        have D0 := Lib.hid d0
        have D1 := Lib.hid d1
        have jk : ((j : Int)).toNat = j := by omega
        have JK := Lib.hid jk
        have kk : (j : Int) < (n : Int) := by omega
        clear hc d0 d1 jk
        cases t : ((Gate.at_ es j).f1 == p)
        · have t' : ((Gate.at_ es j).f1 != p) = true := by rw [bne, t]; rfl
          have H := Lib.hid (show turnF es (j : Int) p = (es, false) from chF_no (fun e => by have := e.2.2.2; rw [JK.out] at this; simp [t] at this))
          go_enter Try.func22, Try.ntmps22
          go_wp2_with (first | (at_builtin; refine wpList_cat _ (Ext.refl _) rfl _ _ _ rfl 38 (.agg #[.bool false, .int .i64 0]) 2 16 elInfo Try.underlying25 rfl (by omega) none 0 0 [] rfl (Own.nil_ _ _ _ _) _ _ _ _ rfl (h.ext ((Ext.refl _).alloc _)) (Gate.all_one es) (by omega) (by omega) ?_; intro A2 c2 w2 ho2 hx2; simp only [Nat.zero_add, List.nil_append] at ho2; have hbx := hx2.got (p := ⟨w.heap.size, 0, none⟩) (v := .int .i64 p) (by simp [go_sem])) | (go_at_call 13; refine (gatesOk_c _ _ _ es _ (h.ext (((Ext.refl _).alloc _).trans hx2))).mono ?_; rintro e w3 ⟨rfl, hx3⟩; have ho3 := ho2.ext hx3; have hby := hx3.got hbx; have hbl : w.heap.size < w3.heap.size := World.block_lt_of_cell? w3 _ hby; have hbn := Nat.ne_of_lt hbl; have hbm := Nat.ne_of_gt hbl; have e0 := ((((Ext.refl _).alloc _).trans hx2).trans hx3).got D0.out; have e1 := ((((Ext.refl _).alloc _).trans hx2).trans hx3).got D1.out) | (go_at_call 36; refine (within_c _ _ _ _).mono ?_; rintro e w' ⟨rfl, rfl⟩) | go_in)
          go_ret2
          refine ⟨A2, c2, ?_, ?_, (by have q := (((Ext.refl w).alloc _).trans hx2).trans hx3; first | exact q | exact q.alloc _ | exact (q.alloc _).alloc _)⟩
          · rw [H.out, HL.out]; rfl
          · rw [H.out, HL.out]; exact ((Own.ext ho3 (by first | exact Ext.refl _ | exact (Ext.refl _).alloc _)).mono (by simp))
        · have t' : ((Gate.at_ es j).f1 != p) = false := by rw [bne, t]; rfl
          have H := Lib.hid (show turnF es (j : Int) p = (es.set j ⟨!(Gate.at_ es j).f0, (Gate.at_ es j).f1⟩, true) from by have := chF_yes (t := fun e => e.f1 == p) (ch := fun e => ⟨!e.f0, e.f1⟩) (es := es) (k := (j : Int)) (p := p) ⟨h1, by rw [HL.out]; exact h2, h3, by rw [JK.out]; simp [*]⟩; rw [JK.out] at this; exact this)
          go_enter Try.func22, Try.ntmps22
          go_wp2_with (first | (at_builtin; refine wpList_cat _ (Ext.refl _) rfl _ _ _ rfl 38 (.agg #[.bool false, .int .i64 0]) 2 16 elInfo Try.underlying25 rfl (by omega) none 0 0 [] rfl (Own.nil_ _ _ _ _) _ _ _ _ rfl (h.ext ((Ext.refl _).alloc _)) (Gate.all_one es) (by omega) (by omega) ?_; intro A2 c2 w2 ho2 hx2; simp only [Nat.zero_add, List.nil_append] at ho2; have hbx := hx2.got (p := ⟨w.heap.size, 0, none⟩) (v := .int .i64 p) (by simp [go_sem])) | (go_at_call 13; refine (gatesOk_c _ _ _ es _ (h.ext (((Ext.refl _).alloc _).trans hx2))).mono ?_; rintro e w3 ⟨rfl, hx3⟩; have ho3 := ho2.ext hx3; have hby := hx3.got hbx; have hbl : w.heap.size < w3.heap.size := World.block_lt_of_cell? w3 _ hby; have hbn := Nat.ne_of_lt hbl; have hbm := Nat.ne_of_gt hbl; have e0 := ((((Ext.refl _).alloc _).trans hx2).trans hx3).got D0.out; have e1 := ((((Ext.refl _).alloc _).trans hx2).trans hx3).got D1.out; obtain ⟨g, hA2, hg1, hg2⟩ := ho3.form (by omega); subst hA2; have HO := Lib.hid ho3; have hu1 := (World.ownsRow.cellAt HO.out (j * 2) (by omega)).trans (Gate.all_get0 es j (by rw [HL.out]; exact hj)); have hf1 := World.ownsRow.frozenAt HO.out (j * 2); clear ho3 ho2) | (go_at_call 36; refine (within_c _ _ _ _).mono ?_; rintro e w' ⟨rfl, rfl⟩) | go_in)
          go_ret2
          have hs := (World.ownsRow.stored HO.out (j * 2) (.bool (!(Gate.at_ es j).f0))).1
          rw [Gate.set0 es j (by rw [HL.out]; exact hj)] at hs
          refine ⟨some ⟨g, 0, none⟩, c2, ?_, ?_, ?_⟩
          · rw [H.out]; simp only [List.length_set, HL.out]; rfl
          · rw [H.out]; simp only [List.length_set, HL.out]; exact (Own.ext (show Own _ _ _ _ _ _ _ _ from hs) (by first | exact Ext.refl _ | exact (Ext.refl _).alloc _)).mono (by simp only [World.size_alloc]; omega)
          · exact (by have q := Ext.setCell ((((Ext.refl w).alloc _).trans hx2).trans hx3) (p := ⟨g, j * 2, none⟩) (Nat.le_trans (by simp only [World.size_alloc]; omega) hg1) (.bool (!(Gate.at_ es j).f0)); first | exact q | exact q.alloc _)
      · have H := Lib.hid (show turnF es k p = (es, false) from chF_no (fun e => h3 e.2.2.1))
        go_enter Try.func22, Try.ntmps22
        go_wp2_with (first | (at_builtin; refine wpList_cat _ (Ext.refl _) rfl _ _ _ rfl 38 (.agg #[.bool false, .int .i64 0]) 2 16 elInfo Try.underlying25 rfl (by omega) none 0 0 [] rfl (Own.nil_ _ _ _ _) _ _ _ _ rfl (h.ext ((Ext.refl _).alloc _)) (Gate.all_one es) (by omega) (by omega) ?_; intro A2 c2 w2 ho2 hx2; simp only [Nat.zero_add, List.nil_append] at ho2; have hbx := hx2.got (p := ⟨w.heap.size, 0, none⟩) (v := .int .i64 p) (by simp [go_sem])) | (go_at_call 13; refine (gatesOk_c _ _ _ es _ (h.ext (((Ext.refl _).alloc _).trans hx2))).mono ?_; rintro e w3 ⟨rfl, hx3⟩; have ho3 := ho2.ext hx3; have hby := hx3.got hbx; have hbl : w.heap.size < w3.heap.size := World.block_lt_of_cell? w3 _ hby; have hbn := Nat.ne_of_lt hbl; have hbm := Nat.ne_of_gt hbl; skip) | (go_at_call 36; refine (within_c _ _ _ _).mono ?_; rintro e w' ⟨rfl, rfl⟩) | go_in)
        go_ret2
        refine ⟨A2, c2, ?_, ?_, (by have q := (((Ext.refl w).alloc _).trans hx2).trans hx3; first | exact q | exact q.alloc _ | exact (q.alloc _).alloc _)⟩
        · rw [H.out, HL.out]; rfl
        · rw [H.out, HL.out]; exact ((Own.ext ho3 (by first | exact Ext.refl _ | exact (Ext.refl _).alloc _)).mono (by simp))
    · have H := Lib.hid (show turnF es k p = (es, false) from chF_no (fun e => h2 (by rw [← HL.out]; exact e.2.1)))
      go_enter Try.func22, Try.ntmps22
      go_wp2_with (first | (at_builtin; refine wpList_cat _ (Ext.refl _) rfl _ _ _ rfl 38 (.agg #[.bool false, .int .i64 0]) 2 16 elInfo Try.underlying25 rfl (by omega) none 0 0 [] rfl (Own.nil_ _ _ _ _) _ _ _ _ rfl (h.ext ((Ext.refl _).alloc _)) (Gate.all_one es) (by omega) (by omega) ?_; intro A2 c2 w2 ho2 hx2; simp only [Nat.zero_add, List.nil_append] at ho2; have hbx := hx2.got (p := ⟨w.heap.size, 0, none⟩) (v := .int .i64 p) (by simp [go_sem])) | (go_at_call 13; refine (gatesOk_c _ _ _ es _ (h.ext (((Ext.refl _).alloc _).trans hx2))).mono ?_; rintro e w3 ⟨rfl, hx3⟩; have ho3 := ho2.ext hx3; have hby := hx3.got hbx; have hbl : w.heap.size < w3.heap.size := World.block_lt_of_cell? w3 _ hby; have hbn := Nat.ne_of_lt hbl; have hbm := Nat.ne_of_gt hbl; skip) | (go_at_call 36; refine (within_c _ _ _ _).mono ?_; rintro e w' ⟨rfl, rfl⟩) | go_in)
      go_ret2
      refine ⟨A2, c2, ?_, ?_, (by have q := (((Ext.refl w).alloc _).trans hx2).trans hx3; first | exact q | exact q.alloc _ | exact (q.alloc _).alloc _)⟩
      · rw [H.out, HL.out]; rfl
      · rw [H.out, HL.out]; exact ((Own.ext ho3 (by first | exact Ext.refl _ | exact (Ext.refl _).alloc _)).mono (by simp))
  · have H := Lib.hid (show turnF es k p = (es, false) from chF_no (fun e => h1 e.1))
    go_enter Try.func22, Try.ntmps22
    go_wp2_with (first | (at_builtin; refine wpList_cat _ (Ext.refl _) rfl _ _ _ rfl 38 (.agg #[.bool false, .int .i64 0]) 2 16 elInfo Try.underlying25 rfl (by omega) none 0 0 [] rfl (Own.nil_ _ _ _ _) _ _ _ _ rfl (h.ext ((Ext.refl _).alloc _)) (Gate.all_one es) (by omega) (by omega) ?_; intro A2 c2 w2 ho2 hx2; simp only [Nat.zero_add, List.nil_append] at ho2; have hbx := hx2.got (p := ⟨w.heap.size, 0, none⟩) (v := .int .i64 p) (by simp [go_sem])) | (go_at_call 13; refine (gatesOk_c _ _ _ es _ (h.ext (((Ext.refl _).alloc _).trans hx2))).mono ?_; rintro e w3 ⟨rfl, hx3⟩; have ho3 := ho2.ext hx3; have hby := hx3.got hbx; have hbl : w.heap.size < w3.heap.size := World.block_lt_of_cell? w3 _ hby; have hbn := Nat.ne_of_lt hbl; have hbm := Nat.ne_of_gt hbl; skip) | (go_at_call 36; refine (within_c _ _ _ _).mono ?_; rintro e w' ⟨rfl, rfl⟩) | go_in)
    go_ret2
    refine ⟨A2, c2, ?_, ?_, (by have q := (((Ext.refl w).alloc _).trans hx2).trans hx3; first | exact q | exact q.alloc _ | exact (q.alloc _).alloc _)⟩
    · rw [H.out, HL.out]; rfl
    · rw [H.out, HL.out]; exact ((Own.ext ho3 (by first | exact Ext.refl _ | exact (Ext.refl _).alloc _)).mono (by simp))
set_option maxHeartbeats 1600000 in
theorem sTurn_c (A : Option Addr) (n c : Nat) (es : List Gate) (k p : Int) (w : World) (h : Holds w 2 A n c (Gate.all es)) (hn : n ≤ 1048576) :
    Calls Try.prog 21 #[.slice A n c, .int .i64 k, .int .i64 p] w (FreshT 38 2 (turnF es k p).1.length (Gate.all (turnF es k p).1) [.bool (turnF es k p).2] w) := by
  have HL := Lib.hid (Gate.len h)
  by_cases h1 : gatB es = true
  · by_cases h2 : inB k 0 ((n : Int) - 1) = true
    · by_cases h3 : inB p 1 999 = true
      · obtain ⟨k0, k1⟩ := inB_yes h2
        obtain ⟨j, rfl⟩ := Int.eq_ofNat_of_zero_le k0
        have hj : j < n := by omega
        obtain ⟨b, off, hA, hb, hc⟩ := Gate.where_ h (by omega)
        subst hA
        obtain ⟨d0, d1⟩ := hc j hj
        have D0 := Lib.hid d0
        have D1 := Lib.hid d1
        have jk : ((j : Int)).toNat = j := by omega
        have JK := Lib.hid jk
        have kk : (j : Int) < (n : Int) := by omega
        clear hc d0 d1 jk
        cases t : ((Gate.at_ es j).f1 == p)
        · have t' : ((Gate.at_ es j).f1 != p) = true := by rw [bne, t]; rfl
          have H := Lib.hid (show turnF es (j : Int) p = (es, false) from chF_no (fun e => by have := e.2.2.2; rw [JK.out] at this; simp [t] at this))
          go_enter Try.func21, Try.ntmps21
          go_wp2_with (first | (at_builtin; refine wpList_cat w ((Ext.refl _).alloc _) rfl _ _ _ rfl 38 (.agg #[.bool false, .int .i64 0]) 2 16 elInfo Try.underlying25 rfl (by omega) (some ⟨w.heap.size, 0, none⟩) 0 0 [] rfl (Own.lit (cs := #[]) (heap_alloc_new _ _) (by omega) rfl) _ _ _ _ rfl (h.ext ((Ext.refl _).alloc _)) (Gate.all_one es) (by omega) (by omega) ?_; intro A2 c2 w2 ho2 hx2; simp only [Nat.zero_add, List.nil_append] at ho2) | (go_at_call 38; refine (l22Can_c _ _ _ es _ _ _ (h.ext hx2)).mono ?_; rintro e w3 ⟨rfl, hx3⟩; have ho3 := ho2.ext hx3; have e0 := (hx2.trans hx3).got D0.out; have e1 := (hx2.trans hx3).got D1.out))
          go_ret2
          refine ⟨A2, c2, ?_, ?_, (hx2.trans hx3)⟩
          · rw [H.out, HL.out]; rfl
          · rw [H.out, HL.out]; exact ho3
        · have t' : ((Gate.at_ es j).f1 != p) = false := by rw [bne, t]; rfl
          have H := Lib.hid (show turnF es (j : Int) p = (es.set j ⟨!(Gate.at_ es j).f0, (Gate.at_ es j).f1⟩, true) from by have := chF_yes (t := fun e => e.f1 == p) (ch := fun e => ⟨!e.f0, e.f1⟩) (es := es) (k := (j : Int)) (p := p) ⟨h1, by rw [HL.out]; exact h2, h3, by rw [JK.out]; simp [*]⟩; rw [JK.out] at this; exact this)
          go_enter Try.func21, Try.ntmps21
          go_wp2_with (first | (at_builtin; refine wpList_cat w ((Ext.refl _).alloc _) rfl _ _ _ rfl 38 (.agg #[.bool false, .int .i64 0]) 2 16 elInfo Try.underlying25 rfl (by omega) (some ⟨w.heap.size, 0, none⟩) 0 0 [] rfl (Own.lit (cs := #[]) (heap_alloc_new _ _) (by omega) rfl) _ _ _ _ rfl (h.ext ((Ext.refl _).alloc _)) (Gate.all_one es) (by omega) (by omega) ?_; intro A2 c2 w2 ho2 hx2; simp only [Nat.zero_add, List.nil_append] at ho2) | (go_at_call 38; refine (l22Can_c _ _ _ es _ _ _ (h.ext hx2)).mono ?_; rintro e w3 ⟨rfl, hx3⟩; have ho3 := ho2.ext hx3; have e0 := (hx2.trans hx3).got D0.out; have e1 := (hx2.trans hx3).got D1.out; obtain ⟨g, hA2, hg1, hg2⟩ := ho3.form (by omega); subst hA2; have HO := Lib.hid ho3; have hu1 := (World.ownsRow.cellAt HO.out (j * 2) (by omega)).trans (Gate.all_get0 es j (by rw [HL.out]; exact hj)); have hf1 := World.ownsRow.frozenAt HO.out (j * 2); clear ho3 ho2))
          go_ret2
          have hs := (World.ownsRow.stored HO.out (j * 2) (.bool (!(Gate.at_ es j).f0))).1
          rw [Gate.set0 es j (by rw [HL.out]; exact hj)] at hs
          refine ⟨some ⟨g, 0, none⟩, c2, ?_, ?_, ?_⟩
          · rw [H.out]; simp only [List.length_set, HL.out]; rfl
          · rw [H.out]; simp only [List.length_set, HL.out]; exact hs
          · exact (Ext.setCell (hx2.trans hx3) hg1 _)
      · have H := Lib.hid (show turnF es k p = (es, false) from chF_no (fun e => h3 e.2.2.1))
        go_enter Try.func21, Try.ntmps21
        go_wp2_with (first | (at_builtin; refine wpList_cat w ((Ext.refl _).alloc _) rfl _ _ _ rfl 38 (.agg #[.bool false, .int .i64 0]) 2 16 elInfo Try.underlying25 rfl (by omega) (some ⟨w.heap.size, 0, none⟩) 0 0 [] rfl (Own.lit (cs := #[]) (heap_alloc_new _ _) (by omega) rfl) _ _ _ _ rfl (h.ext ((Ext.refl _).alloc _)) (Gate.all_one es) (by omega) (by omega) ?_; intro A2 c2 w2 ho2 hx2; simp only [Nat.zero_add, List.nil_append] at ho2) | (go_at_call 38; refine (l22Can_c _ _ _ es _ _ _ (h.ext hx2)).mono ?_; rintro e w3 ⟨rfl, hx3⟩; have ho3 := ho2.ext hx3; skip))
        go_ret2
        refine ⟨A2, c2, ?_, ?_, (hx2.trans hx3)⟩
        · rw [H.out, HL.out]; rfl
        · rw [H.out, HL.out]; exact ho3
    · have H := Lib.hid (show turnF es k p = (es, false) from chF_no (fun e => h2 (by rw [← HL.out]; exact e.2.1)))
      go_enter Try.func21, Try.ntmps21
      go_wp2_with (first | (at_builtin; refine wpList_cat w ((Ext.refl _).alloc _) rfl _ _ _ rfl 38 (.agg #[.bool false, .int .i64 0]) 2 16 elInfo Try.underlying25 rfl (by omega) (some ⟨w.heap.size, 0, none⟩) 0 0 [] rfl (Own.lit (cs := #[]) (heap_alloc_new _ _) (by omega) rfl) _ _ _ _ rfl (h.ext ((Ext.refl _).alloc _)) (Gate.all_one es) (by omega) (by omega) ?_; intro A2 c2 w2 ho2 hx2; simp only [Nat.zero_add, List.nil_append] at ho2) | (go_at_call 38; refine (l22Can_c _ _ _ es _ _ _ (h.ext hx2)).mono ?_; rintro e w3 ⟨rfl, hx3⟩; have ho3 := ho2.ext hx3; skip))
      go_ret2
      refine ⟨A2, c2, ?_, ?_, (hx2.trans hx3)⟩
      · rw [H.out, HL.out]; rfl
      · rw [H.out, HL.out]; exact ho3
  · have H := Lib.hid (show turnF es k p = (es, false) from chF_no (fun e => h1 e.1))
    go_enter Try.func21, Try.ntmps21
    go_wp2_with (first | (at_builtin; refine wpList_cat w ((Ext.refl _).alloc _) rfl _ _ _ rfl 38 (.agg #[.bool false, .int .i64 0]) 2 16 elInfo Try.underlying25 rfl (by omega) (some ⟨w.heap.size, 0, none⟩) 0 0 [] rfl (Own.lit (cs := #[]) (heap_alloc_new _ _) (by omega) rfl) _ _ _ _ rfl (h.ext ((Ext.refl _).alloc _)) (Gate.all_one es) (by omega) (by omega) ?_; intro A2 c2 w2 ho2 hx2; simp only [Nat.zero_add, List.nil_append] at ho2) | (go_at_call 38; refine (l22Can_c _ _ _ es _ _ _ (h.ext hx2)).mono ?_; rintro e w3 ⟨rfl, hx3⟩; have ho3 := ho2.ext hx3; skip))
    go_ret2
    refine ⟨A2, c2, ?_, ?_, (hx2.trans hx3)⟩
    · rw [H.out, HL.out]; rfl
    · rw [H.out, HL.out]; exact ho3
end Go.Proofs.Ytbbhchdpaocljaa
