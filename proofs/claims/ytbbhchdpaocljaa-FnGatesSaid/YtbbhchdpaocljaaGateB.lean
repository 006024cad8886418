/-
  The contracts of KeysOf and OpenGates, of the program and of the reference.
-/
import Derived.Test.YtbbhchdpaocljaaGateA
namespace Go.Proofs.Ytbbhchdpaocljaa
open Go.RowKit

/-- of the numbers below k, those that q lets by -/
def filtIdx (q : Nat → Bool) : Nat → List Int
  | 0 => []
  | k + 1 => if q k = true then filtIdx q k ++ [(k : Int)] else filtIdx q k
theorem filtIdx_len (q : Nat → Bool) (k : Nat) : (filtIdx q k).length ≤ k := by
  induction k with
  | zero => simp [filtIdx]
  | succ k ih => rw [filtIdx]; split <;> (try simp only [List.length_append, List.length_cons, List.length_nil]) <;> omega
theorem filtIdx_yes {q : Nat → Bool} {k : Nat} (h : q k = true) : filtIdx q (k + 1) = filtIdx q k ++ [(k : Int)] := if_pos h
theorem filtIdx_no {q : Nat → Bool} {k : Nat} (h : q k = false) : filtIdx q (k + 1) = filtIdx q k := if_neg (by simp [h])
theorem ints_snoc (zs : List Int) (x : Int) : ints zs ++ [Value.int .i64 x] = ints (zs ++ [x]) := by simp [ints]
def keyQ (es : List Gate) (p : Int) (i : Nat) : Bool := (Gate.at_ es i).f1 == p
def openQ (es : List Gate) (i : Nat) : Bool := (Gate.at_ es i).f0
noncomputable def keysF (es : List Gate) (p : Int) : List Int := if gatB es = true then filtIdx (keyQ es p) es.length else []
noncomputable def openF (es : List Gate) : List Int := if gatB es = true then filtIdx (openQ es) es.length else []
theorem keysF_len (es : List Gate) (p : Int) : (keysF es p).length ≤ 16 := by
  unfold keysF
  split
  · rename_i h; have := filtIdx_len (keyQ es p) es.length; have := (gatB_at h).1; omega
  · simp
theorem openF_len (es : List Gate) : (openF es).length ≤ 16 := by
  unfold openF
  split
  · rename_i h; have := filtIdx_len (openQ es) es.length; have := (gatB_at h).1; omega
  · simp

theorem keysOf_c (A : Option Addr) (n c : Nat) (es : List Gate) (p : Int) (w : World) (h : Holds w 2 A n c (Gate.all es)) :
    Calls Try.prog 26 #[.slice A n c, .int .i64 p] w (Fresh 3 1 (keysF es p).length (ints (keysF es p)) w) := by
  have hmx : n ≤ 9223372036854775807 := by have := h.2.1; have := h.2.2.1; unfold maxLen at this; omega
  have HL := Lib.hid (Gate.len h)
  by_cases h1 : gatB es = true
  · have n16 : n ≤ 16 := by have := (gatB_at h1).1; rw [HL.out] at this; omega
    have H := Lib.hid (show keysF es p = filtIdx (keyQ es p) n from by rw [keysF, if_pos h1, HL.out])
    go_enter Try.func26, Try.ntmps26
    go_wp2_with (go_at_call 13; refine (gatesOk_c _ _ _ es _ h).mono ?_; rintro e w1 ⟨rfl, hx⟩; have hl := hx.len; (try simp only [World.size_alloc, World.size_setCell, World.size_drew, World.heap_drewN] at hl))
    have hx0 := hx
    go_loopw [5, 13] (fun v i wr => ∃ (k : Nat) (A' : Option Addr) (c' : Nat), k ≤ n ∧ i = .int .i64 k ∧ v = .slice A' (filtIdx (keyQ es p) k).length c' ∧ Own wr w.heap.size 3 1 A' (filtIdx (keyQ es p) k).length c' (ints (filtIdx (keyQ es p) k)) ∧ Ext w wr) (fun _ i _ => n - (intOf i).toNat)
    case atStart => exact ⟨0, none, 0, Nat.zero_le _, rfl, rfl, Own.nil_ _ _ _ _, hx0⟩
    case round =>
      clear hx0
      obtain ⟨k, A', c', hk, rfl, rfl, ho, hx⟩ := hrel
      by_cases hlt : k < n
      · obtain ⟨b, off, rfl, hb, hc⟩ := Gate.where_ h (by omega)
        obtain ⟨d0, d1⟩ := hc k hlt
        replace d0 := hx.got d0
        replace d1 := hx.got d1
        have hq := filtIdx_len (keyQ es p) k
        clear hc h
        cases t : ((Gate.at_ es k).f1 == p)
        · go_wp2
          go_roundw
          case rel => exact ⟨k + 1, A', c', by omega, by go_num, by rw [filtIdx_no t], by rw [filtIdx_no t]; exact ho.ext (by (repeat (first | exact Ext.refl _ | assumption | refine Ext.alloc ?_ _ | refine Ext.drew ?_ | refine Ext.drewN ?_ _ | refine Ext.setCell ?_ (by (try simp only [World.size_alloc, World.size_setCell, World.size_drew, World.heap_drewN]); omega) _ | refine Ext.step (by assumption) ?_))), hx.alloc _⟩
          case measure => simp [intOf]; omega
        · go_wp2_with (at_builtin; refine wpList_push w (by (repeat (first | exact Ext.refl _ | assumption | refine Ext.alloc ?_ _ | refine Ext.drew ?_ | refine Ext.drewN ?_ _ | refine Ext.setCell ?_ (by (try simp only [World.size_alloc, World.size_setCell, World.size_drew, World.heap_drewN]); omega) _ | refine Ext.step (by assumption) ?_))) rfl _ _ _ rfl 3 (.int .i64 0) 1 8 intInfo Try.underlying39 rfl (by omega) _ _ _ _ rfl (ho.ext (by (repeat (first | exact Ext.refl _ | assumption | refine Ext.alloc ?_ _ | refine Ext.drew ?_ | refine Ext.drewN ?_ _ | refine Ext.setCell ?_ (by (try simp only [World.size_alloc, World.size_setCell, World.size_drew, World.heap_drewN]); omega) _ | refine Ext.step (by assumption) ?_)))) _ _ _ rfl (by simpa [World.size_alloc] using heap_alloc_new (World.alloc wr _) _) rfl (by simp [Value.oneCell']) (by omega) (by omega) ?_; intro A2 c2 w2 ho2 hx2)
          have e1 : filtIdx (keyQ es p) (k + 1) = _ := filtIdx_yes t
          have l1 : (filtIdx (keyQ es p) (k + 1)).length = (filtIdx (keyQ es p) k).length + 1 := by rw [e1]; simp
          have HO := Lib.hid ho2
          clear ho2 ho
          go_wp2
          go_roundw
          case rel => exact ⟨k + 1, A2, c2, by omega, by go_num, by rw [l1], by rw [l1, e1, ← ints_snoc]; exact HO.out, hx2⟩
          case measure => simp [intOf]; omega
      · obtain rfl : k = n := by omega
        go_wp2
        go_ret
        rw [H.out]
        exact ⟨_, _, rfl, ho, hx⟩
  · have H := Lib.hid (show keysF es p = [] from if_neg h1)
    go_enter Try.func26, Try.ntmps26
    go_wp2_with (go_at_call 13; refine (gatesOk_c _ _ _ es _ h).mono ?_; rintro e w1 ⟨rfl, hx⟩; have hl := hx.len; (try simp only [World.size_alloc, World.size_setCell, World.size_drew, World.heap_drewN] at hl))
    go_ret
    rw [H.out]
    exact Fresh.nil_ hx
theorem sKeysOf_c (A : Option Addr) (n c : Nat) (es : List Gate) (p : Int) (w : World) (h : Holds w 2 A n c (Gate.all es)) :
    Calls Try.prog 29 #[.slice A n c, .int .i64 p] w (Fresh 3 1 (keysF es p).length (ints (keysF es p)) w) := by
  have hmx : n ≤ 9223372036854775807 := by have := h.2.1; have := h.2.2.1; unfold maxLen at this; omega
  have HL := Lib.hid (Gate.len h)
  have h0 := h
  by_cases h1 : gatB es = true
  · have n16 : n ≤ 16 := by have := (gatB_at h1).1; rw [HL.out] at this; omega
    have H := Lib.hid (show keysF es p = filtIdx (keyQ es p) n from by rw [keysF, if_pos h1, HL.out])
    go_enter Try.func29, Try.ntmps29
    go_wp2
    have hb0 := Own.lit (w := w.alloc (.cells #[] 3)) (base := w.heap.size) (e := 3) (k := 1) (n := 0) (cs := #[]) (heap_alloc_new _ _) (by omega) rfl
    go_loopw [5, 6] (fun v i wr => ∃ (k : Nat) (A' : Option Addr) (c' : Nat), k ≤ n ∧ i = .int .i64 k ∧ v = .slice A' (filtIdx (keyQ es p) k).length c' ∧ Own wr w.heap.size 3 1 A' (filtIdx (keyQ es p) k).length c' (ints (filtIdx (keyQ es p) k)) ∧ Ext w wr) (fun _ i _ => n - (intOf i).toNat)
    case atStart => exact ⟨0, _, 0, Nat.zero_le _, rfl, rfl, hb0, by (repeat (first | exact Ext.refl _ | assumption | refine Ext.alloc ?_ _ | refine Ext.drew ?_ | refine Ext.drewN ?_ _ | refine Ext.setCell ?_ (by (try simp only [World.size_alloc, World.size_setCell, World.size_drew, World.heap_drewN]); omega) _ | refine Ext.step (by assumption) ?_))⟩
    case round =>
      clear hb0
      obtain ⟨k, A', c', hk, rfl, rfl, ho, hx⟩ := hrel
      by_cases hlt : k < n
      · obtain ⟨b, off, rfl, hb, hc⟩ := Gate.where_ h (by omega)
        obtain ⟨d0, d1⟩ := hc k hlt
        replace d0 := hx.got d0
        replace d1 := hx.got d1
        have hq := filtIdx_len (keyQ es p) k
        have j0 : (0 : Int) ≤ (k : Int) := by omega
        have j1 : (k : Int) < (n : Int) := by omega
        clear hc h
        go_wp2_with fail
        refine (sGatesOk_c _ _ _ es _ (h0.ext hx)).mono ?_; rintro e w1 ⟨rfl, x1⟩
        have d0' := x1.got d0
        have d1' := x1.got d1
        have hx1 := hx.trans x1
        replace ho := ho.ext x1
        clear d0 d1
        cases t : ((Gate.at_ es k).f1 == p)
        · go_wp2
          go_roundw
          case rel => exact ⟨k + 1, A', c', by omega, by go_num, by rw [filtIdx_no t], by rw [filtIdx_no t]; exact ho, hx1⟩
          case measure => simp [intOf]; omega
        · go_wp2_with (at_builtin; refine wpList_push w (by (repeat (first | exact Ext.refl _ | assumption | refine Ext.alloc ?_ _ | refine Ext.drew ?_ | refine Ext.drewN ?_ _ | refine Ext.setCell ?_ (by (try simp only [World.size_alloc, World.size_setCell, World.size_drew, World.heap_drewN]); omega) _ | refine Ext.step (by assumption) ?_))) rfl _ _ _ rfl 3 (.int .i64 0) 1 8 intInfo Try.underlying39 rfl (by omega) _ _ _ _ rfl (ho.ext (by (repeat (first | exact Ext.refl _ | assumption | refine Ext.alloc ?_ _ | refine Ext.drew ?_ | refine Ext.drewN ?_ _ | refine Ext.setCell ?_ (by (try simp only [World.size_alloc, World.size_setCell, World.size_drew, World.heap_drewN]); omega) _ | refine Ext.step (by assumption) ?_)))) _ _ _ rfl (by simpa [World.size_alloc] using heap_alloc_new w1 _) rfl (by simp [Value.oneCell']) (by omega) (by omega) ?_; intro A2 c2 w2 ho2 hx2)
          have e1 : filtIdx (keyQ es p) (k + 1) = _ := filtIdx_yes t
          have l1 : (filtIdx (keyQ es p) (k + 1)).length = (filtIdx (keyQ es p) k).length + 1 := by rw [e1]; simp
          have HO := Lib.hid ho2
          clear ho2 ho
          go_wp2
          go_roundw
          case rel => exact ⟨k + 1, A2, c2, by omega, by go_num, by rw [l1], by rw [l1, e1, ← ints_snoc]; exact HO.out, hx2⟩
          case measure => simp [intOf]; omega
      · obtain rfl : k = n := by omega
        go_wp2
        go_ret
        rw [H.out]
        exact ⟨_, _, rfl, ho, hx⟩
  · have H := Lib.hid (show keysF es p = [] from if_neg h1)
    have hb0 := Own.lit (w := w.alloc (.cells #[] 3)) (base := w.heap.size) (e := 3) (k := 1) (n := 0) (cs := #[]) (heap_alloc_new _ _) (by omega) rfl
    by_cases hn0 : 0 < n
    · go_enter Try.func29, Try.ntmps29
      go_wp2
      go_loopw [5, 6] (fun v i wr => i = .int .i64 0 ∧ v = .slice (some ⟨w.heap.size, 0, none⟩) 0 0 ∧ Own wr w.heap.size 3 1 (some ⟨w.heap.size, 0, none⟩) 0 0 [] ∧ Ext w wr) (fun _ i _ => n - (intOf i).toNat)
      case atStart => exact ⟨rfl, rfl, hb0, by (repeat (first | exact Ext.refl _ | assumption | refine Ext.alloc ?_ _ | refine Ext.drew ?_ | refine Ext.drewN ?_ _ | refine Ext.setCell ?_ (by (try simp only [World.size_alloc, World.size_setCell, World.size_drew, World.heap_drewN]); omega) _ | refine Ext.step (by assumption) ?_))⟩
      case round =>
        clear hb0
        obtain ⟨rfl, rfl, ho, hx⟩ := hrel
        go_wp2_with fail
        refine (sGatesOk_c _ _ _ es _ (h.ext hx)).mono ?_; rintro e w1 ⟨rfl, x1⟩
        go_wp2
        go_ret
        rw [H.out]
        exact ⟨_, _, rfl, ho.ext x1, hx.trans x1⟩
    · obtain rfl : n = 0 := by omega
      go_enter Try.func29, Try.ntmps29
      go_wp2
      go_loopw [5, 6] (fun v i wr => i = .int .i64 0 ∧ v = .slice (some ⟨w.heap.size, 0, none⟩) 0 0 ∧ Own wr w.heap.size 3 1 (some ⟨w.heap.size, 0, none⟩) 0 0 [] ∧ Ext w wr) (fun _ i _ => 0 - (intOf i).toNat)
      case atStart => exact ⟨rfl, rfl, hb0, by (repeat (first | exact Ext.refl _ | assumption | refine Ext.alloc ?_ _ | refine Ext.drew ?_ | refine Ext.drewN ?_ _ | refine Ext.setCell ?_ (by (try simp only [World.size_alloc, World.size_setCell, World.size_drew, World.heap_drewN]); omega) _ | refine Ext.step (by assumption) ?_))⟩
      case round =>
        clear hb0
        obtain ⟨rfl, rfl, ho, hx⟩ := hrel
        go_wp2
        go_ret
        rw [H.out]
        exact ⟨_, _, rfl, ho, hx⟩
theorem openGates_c (A : Option Addr) (n c : Nat) (es : List Gate) (w : World) (h : Holds w 2 A n c (Gate.all es)) :
    Calls Try.prog 27 #[.slice A n c] w (Fresh 3 1 (openF es).length (ints (openF es)) w) := by
  have hmx : n ≤ 9223372036854775807 := by have := h.2.1; have := h.2.2.1; unfold maxLen at this; omega
  have HL := Lib.hid (Gate.len h)
  by_cases h1 : gatB es = true
  · have n16 : n ≤ 16 := by have := (gatB_at h1).1; rw [HL.out] at this; omega
    have H := Lib.hid (show openF es = filtIdx (openQ es) n from by rw [openF, if_pos h1, HL.out])
    go_enter Try.func27, Try.ntmps27
    go_wp2_with (go_at_call 13; refine (gatesOk_c _ _ _ es _ h).mono ?_; rintro e w1 ⟨rfl, hx⟩; have hl := hx.len; (try simp only [World.size_alloc, World.size_setCell, World.size_drew, World.heap_drewN] at hl))
    have hx0 := hx
    go_loopw [3, 11] (fun v i wr => ∃ (k : Nat) (A' : Option Addr) (c' : Nat), k ≤ n ∧ i = .int .i64 k ∧ v = .slice A' (filtIdx (openQ es) k).length c' ∧ Own wr w.heap.size 3 1 A' (filtIdx (openQ es) k).length c' (ints (filtIdx (openQ es) k)) ∧ Ext w wr) (fun _ i _ => n - (intOf i).toNat)
    case atStart => exact ⟨0, none, 0, Nat.zero_le _, rfl, rfl, Own.nil_ _ _ _ _, hx0⟩
    case round =>
      clear hx0
      obtain ⟨k, A', c', hk, rfl, rfl, ho, hx⟩ := hrel
      by_cases hlt : k < n
      · obtain ⟨b, off, rfl, hb, hc⟩ := Gate.where_ h (by omega)
        obtain ⟨d0, d1⟩ := hc k hlt
        replace d0 := hx.got d0
        replace d1 := hx.got d1
        have hq := filtIdx_len (openQ es) k
        clear hc h
        cases t : ((Gate.at_ es k).f0)
        · go_wp2
          go_roundw
          case rel => exact ⟨k + 1, A', c', by omega, by go_num, by rw [filtIdx_no t], by rw [filtIdx_no t]; exact ho.ext (by (repeat (first | exact Ext.refl _ | assumption | refine Ext.alloc ?_ _ | refine Ext.drew ?_ | refine Ext.drewN ?_ _ | refine Ext.setCell ?_ (by (try simp only [World.size_alloc, World.size_setCell, World.size_drew, World.heap_drewN]); omega) _ | refine Ext.step (by assumption) ?_))), hx.alloc _⟩
          case measure => simp [intOf]; omega
        · go_wp2_with (at_builtin; refine wpList_push w (by (repeat (first | exact Ext.refl _ | assumption | refine Ext.alloc ?_ _ | refine Ext.drew ?_ | refine Ext.drewN ?_ _ | refine Ext.setCell ?_ (by (try simp only [World.size_alloc, World.size_setCell, World.size_drew, World.heap_drewN]); omega) _ | refine Ext.step (by assumption) ?_))) rfl _ _ _ rfl 3 (.int .i64 0) 1 8 intInfo Try.underlying39 rfl (by omega) _ _ _ _ rfl (ho.ext (by (repeat (first | exact Ext.refl _ | assumption | refine Ext.alloc ?_ _ | refine Ext.drew ?_ | refine Ext.drewN ?_ _ | refine Ext.setCell ?_ (by (try simp only [World.size_alloc, World.size_setCell, World.size_drew, World.heap_drewN]); omega) _ | refine Ext.step (by assumption) ?_)))) _ _ _ rfl (by simpa [World.size_alloc] using heap_alloc_new (World.alloc wr _) _) rfl (by simp [Value.oneCell']) (by omega) (by omega) ?_; intro A2 c2 w2 ho2 hx2)
          have e1 : filtIdx (openQ es) (k + 1) = _ := filtIdx_yes t
          have l1 : (filtIdx (openQ es) (k + 1)).length = (filtIdx (openQ es) k).length + 1 := by rw [e1]; simp
          have HO := Lib.hid ho2
          clear ho2 ho
          go_wp2
          go_roundw
          case rel => exact ⟨k + 1, A2, c2, by omega, by go_num, by rw [l1], by rw [l1, e1, ← ints_snoc]; exact HO.out, hx2⟩
          case measure => simp [intOf]; omega
      · obtain rfl : k = n := by omega
        go_wp2
        go_ret
        rw [H.out]
        exact ⟨_, _, rfl, ho, hx⟩
  · have H := Lib.hid (show openF es = [] from if_neg h1)
    go_enter Try.func27, Try.ntmps27
    go_wp2_with (go_at_call 13; refine (gatesOk_c _ _ _ es _ h).mono ?_; rintro e w1 ⟨rfl, hx⟩; have hl := hx.len; (try simp only [World.size_alloc, World.size_setCell, World.size_drew, World.heap_drewN] at hl))
    go_ret
    rw [H.out]
    exact Fresh.nil_ hx
theorem sOpenGates_c (A : Option Addr) (n c : Nat) (es : List Gate) (w : World) (h : Holds w 2 A n c (Gate.all es)) :
    Calls Try.prog 33 #[.slice A n c] w (Fresh 3 1 (openF es).length (ints (openF es)) w) := by
  have hmx : n ≤ 9223372036854775807 := by have := h.2.1; have := h.2.2.1; unfold maxLen at this; omega
  have HL := Lib.hid (Gate.len h)
  have h0 := h
  by_cases h1 : gatB es = true
  · have n16 : n ≤ 16 := by have := (gatB_at h1).1; rw [HL.out] at this; omega
    have H := Lib.hid (show openF es = filtIdx (openQ es) n from by rw [openF, if_pos h1, HL.out])
    go_enter Try.func33, Try.ntmps33
    go_wp2
    have hb0 := Own.lit (w := w.alloc (.cells #[] 3)) (base := w.heap.size) (e := 3) (k := 1) (n := 0) (cs := #[]) (heap_alloc_new _ _) (by omega) rfl
    go_loopw [3, 4] (fun v i wr => ∃ (k : Nat) (A' : Option Addr) (c' : Nat), k ≤ n ∧ i = .int .i64 k ∧ v = .slice A' (filtIdx (openQ es) k).length c' ∧ Own wr w.heap.size 3 1 A' (filtIdx (openQ es) k).length c' (ints (filtIdx (openQ es) k)) ∧ Ext w wr) (fun _ i _ => n - (intOf i).toNat)
    case atStart => exact ⟨0, _, 0, Nat.zero_le _, rfl, rfl, hb0, by (repeat (first | exact Ext.refl _ | assumption | refine Ext.alloc ?_ _ | refine Ext.drew ?_ | refine Ext.drewN ?_ _ | refine Ext.setCell ?_ (by (try simp only [World.size_alloc, World.size_setCell, World.size_drew, World.heap_drewN]); omega) _ | refine Ext.step (by assumption) ?_))⟩
    case round =>
      clear hb0
      obtain ⟨k, A', c', hk, rfl, rfl, ho, hx⟩ := hrel
      by_cases hlt : k < n
      · obtain ⟨b, off, rfl, hb, hc⟩ := Gate.where_ h (by omega)
        obtain ⟨d0, d1⟩ := hc k hlt
        replace d0 := hx.got d0
        replace d1 := hx.got d1
        have hq := filtIdx_len (openQ es) k
        have j0 : (0 : Int) ≤ (k : Int) := by omega
        have j1 : (k : Int) < (n : Int) := by omega
        clear hc h
        go_wp2_with fail
        refine (sGatesOk_c _ _ _ es _ (h0.ext hx)).mono ?_; rintro e w1 ⟨rfl, x1⟩
        have d0' := x1.got d0
        have d1' := x1.got d1
        have hx1 := hx.trans x1
        replace ho := ho.ext x1
        clear d0 d1
        cases t : ((Gate.at_ es k).f0)
        · go_wp2
          go_roundw
          case rel => exact ⟨k + 1, A', c', by omega, by go_num, by rw [filtIdx_no t], by rw [filtIdx_no t]; exact ho, hx1⟩
          case measure => simp [intOf]; omega
        · go_wp2_with (at_builtin; refine wpList_push w (by (repeat (first | exact Ext.refl _ | assumption | refine Ext.alloc ?_ _ | refine Ext.drew ?_ | refine Ext.drewN ?_ _ | refine Ext.setCell ?_ (by (try simp only [World.size_alloc, World.size_setCell, World.size_drew, World.heap_drewN]); omega) _ | refine Ext.step (by assumption) ?_))) rfl _ _ _ rfl 3 (.int .i64 0) 1 8 intInfo Try.underlying39 rfl (by omega) _ _ _ _ rfl (ho.ext (by (repeat (first | exact Ext.refl _ | assumption | refine Ext.alloc ?_ _ | refine Ext.drew ?_ | refine Ext.drewN ?_ _ | refine Ext.setCell ?_ (by (try simp only [World.size_alloc, World.size_setCell, World.size_drew, World.heap_drewN]); omega) _ | refine Ext.step (by assumption) ?_)))) _ _ _ rfl (by simpa [World.size_alloc] using heap_alloc_new w1 _) rfl (by simp [Value.oneCell']) (by omega) (by omega) ?_; intro A2 c2 w2 ho2 hx2)
          have e1 : filtIdx (openQ es) (k + 1) = _ := filtIdx_yes t
          have l1 : (filtIdx (openQ es) (k + 1)).length = (filtIdx (openQ es) k).length + 1 := by rw [e1]; simp
          have HO := Lib.hid ho2
          clear ho2 ho
          go_wp2
          go_roundw
          case rel => exact ⟨k + 1, A2, c2, by omega, by go_num, by rw [l1], by rw [l1, e1, ← ints_snoc]; exact HO.out, hx2⟩
          case measure => simp [intOf]; omega
      · obtain rfl : k = n := by omega
        go_wp2
        go_ret
        rw [H.out]
        exact ⟨_, _, rfl, ho, hx⟩
  · have H := Lib.hid (show openF es = [] from if_neg h1)
    have hb0 := Own.lit (w := w.alloc (.cells #[] 3)) (base := w.heap.size) (e := 3) (k := 1) (n := 0) (cs := #[]) (heap_alloc_new _ _) (by omega) rfl
    by_cases hn0 : 0 < n
    · go_enter Try.func33, Try.ntmps33
      go_wp2
      go_loopw [3, 4] (fun v i wr => i = .int .i64 0 ∧ v = .slice (some ⟨w.heap.size, 0, none⟩) 0 0 ∧ Own wr w.heap.size 3 1 (some ⟨w.heap.size, 0, none⟩) 0 0 [] ∧ Ext w wr) (fun _ i _ => n - (intOf i).toNat)
      case atStart => exact ⟨rfl, rfl, hb0, by (repeat (first | exact Ext.refl _ | assumption | refine Ext.alloc ?_ _ | refine Ext.drew ?_ | refine Ext.drewN ?_ _ | refine Ext.setCell ?_ (by (try simp only [World.size_alloc, World.size_setCell, World.size_drew, World.heap_drewN]); omega) _ | refine Ext.step (by assumption) ?_))⟩
      case round =>
        clear hb0
        obtain ⟨rfl, rfl, ho, hx⟩ := hrel
        go_wp2_with fail
        refine (sGatesOk_c _ _ _ es _ (h.ext hx)).mono ?_; rintro e w1 ⟨rfl, x1⟩
        go_wp2
        go_ret
        rw [H.out]
        exact ⟨_, _, rfl, ho.ext x1, hx.trans x1⟩
    · obtain rfl : n = 0 := by omega
      go_enter Try.func33, Try.ntmps33
      go_wp2
      go_loopw [3, 4] (fun v i wr => i = .int .i64 0 ∧ v = .slice (some ⟨w.heap.size, 0, none⟩) 0 0 ∧ Own wr w.heap.size 3 1 (some ⟨w.heap.size, 0, none⟩) 0 0 [] ∧ Ext w wr) (fun _ i _ => 0 - (intOf i).toNat)
      case atStart => exact ⟨rfl, rfl, hb0, by (repeat (first | exact Ext.refl _ | assumption | refine Ext.alloc ?_ _ | refine Ext.drew ?_ | refine Ext.drewN ?_ _ | refine Ext.setCell ?_ (by (try simp only [World.size_alloc, World.size_setCell, World.size_drew, World.heap_drewN]); omega) _ | refine Ext.step (by assumption) ?_))⟩
      case round =>
        clear hb0
        obtain ⟨rfl, rfl, ho, hx⟩ := hrel
        go_wp2
        go_ret
        rw [H.out]
        exact ⟨_, _, rfl, ho, hx⟩
end Go.Proofs.Ytbbhchdpaocljaa
