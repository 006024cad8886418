/-
  The contract of PossibleRates, of the program and of the reference.
-/
import Derived.Test.YtdaokpfomoiboaaLeakP
namespace Go.Proofs.Ytdaokpfomoiboaa
open Go.RowKit

/-- of the numbers below k, those that q lets by -/
def filtIdx (q : Nat → Bool) : Nat → List Int
  | 0 => []
  | k + 1 => if q k = true then filtIdx q k ++ [(k : Int)] else filtIdx q k
theorem filtIdx_len (q : Nat → Bool) (k : Nat) : (filtIdx q k).length ≤ k := by
  induction k with
  | zero => simp [filtIdx]
  | succ k ih => rw [filtIdx]; split <;> (try simp only [List.length_append, List.length_cons, List.length_nil]) <;> omega
theorem filtIdx_yes {q : Nat → Bool} {k : Nat} (h : q k = true) : filtIdx q (k + 1) = filtIdx q k ++ [(k : Int)] := if_pos h
theorem filtIdx_no {q : Nat → Bool} {k : Nat} (h : q k = false) : filtIdx q (k + 1) = filtIdx q k := if_neg (by simp [h])
theorem ints_snoc (zs : List Int) (x : Int) : ints zs ++ [Value.int .i64 x] = ints (zs ++ [x]) := by simp [ints]
noncomputable def possQ (ls rs : List Int) (k : Nat) : Bool := explB ls (nth rs k) (nth ls (ls.length - 1))
def possOk (ls rs : List Int) : Prop := levB ls 2 = true ∧ rs.length ≤ 10 ∧ allB rs 0 1000 = true
open Classical in
/-- what PossibleRates answers -/
noncomputable def possF (ls rs : List Int) : List Int := if possOk ls rs then filtIdx (possQ ls rs) rs.length else []
theorem possF_no {ls rs : List Int} (h : ¬ possOk ls rs) : possF ls rs = [] := if_neg h
theorem possF_yes {ls rs : List Int} (h : possOk ls rs) : possF ls rs = filtIdx (possQ ls rs) rs.length := if_pos h
theorem possF_len (ls rs : List Int) : (possF ls rs).length ≤ 10 := by
  unfold possF
  split
  · rename_i h; have := filtIdx_len (possQ ls rs) rs.length; have := h.2.1; omega
  · simp
theorem levB_at {zs : List Int} {n least : Nat} (hn : zs.length = n) (h : levB zs least = true) : (least ≤ n ∧ n ≤ 100) ∧ allB zs 0 100000 = true := levB_yes hn h
theorem lh_next {ls : List Int} {r l u a b : Int} {t : Nat} {p : Int × Int} (hp : (l, u) = lhN ls r (t - 1)) (ht : 1 ≤ t) (ha : a = nth ls (t - 1)) (hb : b = nth ls t) (q : lhStep r a b (l, u) = p) : p = lhN ls r (t + 1 - 1) := by
  show p = lhN ls r t
  obtain ⟨m, rfl⟩ : ∃ m, t = m + 1 := ⟨t - 1, by omega⟩
  rw [lhN, ← q, hp, ha, hb]
  rfl
theorem lhStep_1 {r a b l u : Int} (h : r = 0 ∧ a = b) : lhStep r a b (l, u) = (l, u) := if_pos h
theorem lhStep_2 {r a b l u : Int} (h : ¬ (r = 0 ∧ a = b) ∧ b = a) : lhStep r a b (l, u) = (max l a, u) := by rw [lhStep, if_neg h.1, if_pos h.2]
theorem lhStep_3 {r a b l u : Int} (h : ¬ (r = 0 ∧ a = b) ∧ ¬ b = a ∧ b = a - r) : lhStep r a b (l, u) = (l, min u b) := by rw [lhStep, if_neg h.1, if_neg h.2.1, if_pos h.2.2]
theorem lhStep_4 {r a b l u : Int} (h : ¬ (r = 0 ∧ a = b) ∧ ¬ b = a ∧ ¬ b = a - r ∧ (b < a ∧ a - r < b)) : lhStep r a b (l, u) = (max l b, min u b) := by rw [lhStep, if_neg h.1, if_neg h.2.1, if_neg h.2.2.1, if_pos h.2.2.2]
theorem lhStep_5 {r a b l u : Int} (h : ¬ (r = 0 ∧ a = b) ∧ ¬ b = a ∧ ¬ b = a - r ∧ ¬ (b < a ∧ a - r < b)) : lhStep r a b (l, u) = (u + 1, u) := by rw [lhStep, if_neg h.1, if_neg h.2.1, if_neg h.2.2.1, if_neg h.2.2.2]
theorem lh_last {ls : List Int} {r : Int} {n : Nat} (k : Nat) (hk : k + 1 = n) : lhN ls r (k + 1 - 1) = lhN ls r (n - 1) := by subst hk; rfl
set_option maxRecDepth 100000 in
set_option maxHeartbeats 12800000 in
theorem poss_c (A B : Option Addr) (n c m d : Nat) (ls rs : List Int) (w : World) (h : Holds w 1 A n c (ints ls)) (h' : Holds w 1 B m d (ints rs)) :
    Calls Try.prog 22 #[.slice A n c, .slice B m d] w (Fresh 3 1 (possF ls rs).length (ints (possF ls rs)) w) := by
  have hmx : n ≤ 9223372036854775807 := by have := h.2.1; have := h.2.2.1; unfold maxLen at this; omega
  have hmx' : m ≤ 9223372036854775807 := by have := h'.2.1; have := h'.2.2.1; unfold maxLen at this; omega
  have HL := Lib.hid h.intlen
  have HL' := Lib.hid h'.intlen
  by_cases h1 : inB (n : Int) 2 100 = true
  · by_cases h2 : allB ls 0 100000 = true
    · by_cases h3 : m ≤ 10
      · by_cases h4 : allB rs 0 1000 = true
        · have P := Lib.hid (show possOk ls rs from ⟨levB_mk 2 HL.out (by have := inB_yes h1; omega) h2, by rw [HL'.out]; exact h3, h4⟩)
          have H := Lib.hid (show possF ls rs = filtIdx (possQ ls rs) m from by rw [possF_yes P.out, HL'.out])
          obtain ⟨n1, n2⟩ := inB_yes h1
          obtain ⟨b, off, hA, hb, hc⟩ := h.int (by omega)
          subst hA
          have HC := Lib.hid hc
          have HH := Lib.hid h'
          clear hc
          go_enter Try.func22, Try.ntmps22
          go_wp2_with (first | (go_at_call 30; refine (within_c _ _ _ _).mono ?_; rintro e w' ⟨rfl, rfl⟩) | (go_at_call 33; refine (allWithin_c _ _ _ _ _ _ _ (by assumption)).mono ?_; rintro e w' ⟨rfl, rfl⟩))
          clear h h'
          go_loopw [5, 34] (fun v i wr => ∃ (k : Nat) (A' : Option Addr) (c' : Nat), k ≤ m ∧ i = .int .i64 k ∧ v = .slice A' (filtIdx (possQ ls rs) k).length c' ∧ Own wr w.heap.size 3 1 A' (filtIdx (possQ ls rs) k).length c' (ints (filtIdx (possQ ls rs) k)) ∧ Ext w wr) (fun _ i _ => m - (intOf i).toNat)
          case atStart => exact ⟨0, none, 0, Nat.zero_le _, rfl, rfl, Own.nil_ _ _ _ _, Ext.refl _⟩
          case round =>
            obtain ⟨k, A', c', hk, rfl, rfl, ho, hx⟩ := hrel
            by_cases hlt : k < m
            · obtain ⟨b', off', hB, hb', hc'⟩ := HH.out.int (by omega)
              subst hB
              have e0 := hx.got (hc' k hlt)
              have hr := allB_at h4 (show k < rs.length by rw [HL'.out]; exact hlt)
              obtain ⟨r, hre⟩ : ∃ r, r = nth rs k := ⟨_, rfl⟩
              rw [← hre] at e0 hr
              have HR := Lib.hid hre
              have HO := Lib.hid ho
              have hq := filtIdx_len (possQ ls rs) k
              have dk : decide ((k : Int) < (m : Int)) = true := decide_eq_true (by omega)
              clear hc' hre ho
              go_wp2
              go_loopw [8, 9, 10] (fun lo hi i wr2 => ∃ (t : Nat) (l u : Int), (1 ≤ t ∧ t ≤ n) ∧ i = .int .i64 (t : Int) ∧ lo = .int .i64 l ∧ hi = .int .i64 u ∧ Hid ((l, u) = lhN ls r (t - 1)) ∧ (0 ≤ l ∧ l ≤ 100001) ∧ (0 ≤ u ∧ u ≤ 100000) ∧ Ext wr wr2) (fun _ _ i _ => n - (intOf i).toNat)
              case atStart => exact ⟨1, 0, 100000, by omega, rfl, rfl, rfl, rfl, by omega, by omega, Ext.refl _⟩
              case round =>
                obtain ⟨t, l, u, ⟨ht1, ht⟩, rfl, rfl, rfl, HP, hl, hu, hx2⟩ := hrel
                by_cases htl : t < n
                · have q0 := After.got (w := wr) (hx2.got (hx.got (HC.out (t - 1) (by omega))))
                  have q1 := After.got (w := wr) (hx2.got (hx.got (HC.out t htl)))
                  have k0 : (0 : Int) ≤ (t : Int) := by omega
                  have k1 : (t : Int) < (n : Int) := by omega
                  have km : (0 : Int) ≤ (t : Int) - 1 := by omega
                  have km2 : (t : Int) - 1 < (n : Int) := by omega
                  have kpos : (0 : Int) < (t : Int) := by omega
                  have hab := allB_at h2 (show t - 1 < ls.length by rw [HL.out]; omega)
                  have hbb := allB_at h2 (show t < ls.length by rw [HL.out]; omega)
                  obtain ⟨a, ha⟩ : ∃ x, x = nth ls (t - 1) := ⟨_, rfl⟩
                  obtain ⟨b, hb⟩ : ∃ x, x = nth ls t := ⟨_, rfl⟩
                  rw [← ha] at q0 hab
                  rw [← hb] at q1 hbb
                  have HA := Lib.hid ha
                  have HB := Lib.hid hb
                  clear ha hb
                  by_cases c1 : r = 0 ∧ a = b
                  · have C1 := Lib.hid c1
                    have t1 : (r == 0) = true := by simp [c1.1]
                    have t2 : (a == b) = true := by simp [c1.2]
                    clear c1
                    go_wp2_with fail
                    (refine wp_region_after wr (Ext.refl _) (by kernel_rfl) (by kernel_rfl) ?_; (repeat (go_big_quiet_step (fail))); refine wpQuiet_nil ?_; intro _ hw'; obtain ⟨y, hw''⟩ := hw'; subst hw'')
                    go_wp2
                    go_roundw
                    case rel => exact ⟨t + 1, l, u, by omega, by go_num, rfl, rfl, lh_next HP.out ht1 HA.out HB.out (lhStep_1 C1.out), by omega, by omega, hx2.trans y.ext⟩
                    case measure => simp [intOf]; omega
                  · by_cases c2 : b = a
                    · have C := Lib.hid (And.intro c1 c2)
                      have t1 : (r == 0) = false := by simp; intro e; exact c1 ⟨e, c2.symm⟩
                      have t2 : (b == a) = true := by simp [c2]
                      clear c1 c2
                      go_wp2_with fail
                      (refine wp_region_after wr (Ext.refl _) (by kernel_rfl) (by kernel_rfl) ?_; (repeat (go_big_quiet_step (fail))); refine wpQuiet_nil ?_; intro _ hw'; obtain ⟨y, hw''⟩ := hw'; subst hw'')
                      go_wp2
                      go_roundw
                      case rel => exact ⟨t + 1, max l a, u, by omega, by go_num, rfl, rfl, lh_next HP.out ht1 HA.out HB.out (lhStep_2 C.out), by omega, by omega, hx2.trans y.ext⟩
                      case measure => simp [intOf]; omega
                    · by_cases c3 : b = a - r
                      · have C := Lib.hid (And.intro c1 (And.intro c2 c3))
                        have t0 : (a == b) = false := by simp; intro e; exact c2 e.symm
                        have t2 : (b == a) = false := by simp [c2]
                        have t3 : (b == a - r) = true := by simp [c3]
                        clear c1 c2 c3
                        cases t1 : (r == 0)
                        · go_wp2_with fail
                          (refine wp_region_after wr (Ext.refl _) (by kernel_rfl) (by kernel_rfl) ?_; (repeat (go_big_quiet_step (fail))); refine wpQuiet_nil ?_; intro _ hw'; obtain ⟨y, hw''⟩ := hw'; subst hw'')
                          go_wp2
                          go_roundw
                          case rel => exact ⟨t + 1, l, min u b, by omega, by go_num, rfl, rfl, lh_next HP.out ht1 HA.out HB.out (lhStep_3 C.out), by omega, by omega, hx2.trans y.ext⟩
                          case measure => simp [intOf]; omega
                        · go_wp2_with fail
                          (refine wp_region_after wr (Ext.refl _) (by kernel_rfl) (by kernel_rfl) ?_; (repeat (go_big_quiet_step (fail))); refine wpQuiet_nil ?_; intro _ hw'; obtain ⟨y, hw''⟩ := hw'; subst hw'')
                          go_wp2
                          go_roundw
                          case rel => exact ⟨t + 1, l, min u b, by omega, by go_num, rfl, rfl, lh_next HP.out ht1 HA.out HB.out (lhStep_3 C.out), by omega, by omega, hx2.trans y.ext⟩
                          case measure => simp [intOf]; omega
                      · by_cases c4 : b < a ∧ a - r < b
                        · have C := Lib.hid (And.intro c1 (And.intro c2 (And.intro c3 c4)))
                          have t0 : (a == b) = false := by simp; intro e; exact c2 e.symm
                          have t2 : (b == a) = false := by simp [c2]
                          have t3 : (b == a - r) = false := by simp [c3]
                          have t4 : decide (b < a) = true := by simp [c4.1]
                          have t5 : decide (a - r < b) = true := by simp [c4.2]
                          have c5 := c4.1
                          have c6 := c4.2
                          clear c1 c2 c3 c4
                          cases t1 : (r == 0)
                          · go_wp2_with fail
                            (refine wp_region_after wr (Ext.refl _) (by kernel_rfl) (by kernel_rfl) ?_; (repeat (go_big_quiet_step (fail))); refine wpQuiet_nil ?_; intro _ hw'; obtain ⟨y, hw''⟩ := hw'; subst hw'')
                            go_wp2
                            go_roundw
                            case rel => exact ⟨t + 1, max l b, min u b, by omega, by go_num, rfl, rfl, lh_next HP.out ht1 HA.out HB.out (lhStep_4 C.out), by omega, by omega, hx2.trans y.ext⟩
                            case measure => simp [intOf]; omega
                          · go_wp2_with fail
                            (refine wp_region_after wr (Ext.refl _) (by kernel_rfl) (by kernel_rfl) ?_; (repeat (go_big_quiet_step (fail))); refine wpQuiet_nil ?_; intro _ hw'; obtain ⟨y, hw''⟩ := hw'; subst hw'')
                            go_wp2
                            go_roundw
                            case rel => exact ⟨t + 1, max l b, min u b, by omega, by go_num, rfl, rfl, lh_next HP.out ht1 HA.out HB.out (lhStep_4 C.out), by omega, by omega, hx2.trans y.ext⟩
                            case measure => simp [intOf]; omega
                        · have C := Lib.hid (And.intro c1 (And.intro c2 (And.intro c3 c4)))
                          have t0 : (a == b) = false := by simp; intro e; exact c2 e.symm
                          have t2 : (b == a) = false := by simp [c2]
                          have t3 : (b == a - r) = false := by simp [c3]
                          clear c1 c2 c3 c4
                          cases t4 : decide (b < a)
                          · cases t1 : (r == 0)
                            · go_wp2_with fail
                              (refine wp_region_after wr (Ext.refl _) (by kernel_rfl) (by kernel_rfl) ?_; (repeat (go_big_quiet_step (fail))); refine wpQuiet_nil ?_; intro _ hw'; obtain ⟨y, hw''⟩ := hw'; subst hw'')
                              go_wp2
                              go_roundw
                              case rel => exact ⟨t + 1, u + 1, u, by omega, by go_num, rfl, rfl, lh_next HP.out ht1 HA.out HB.out (lhStep_5 C.out), by omega, by omega, hx2.trans y.ext⟩
                              case measure => simp [intOf]; omega
                            · go_wp2_with fail
                              (refine wp_region_after wr (Ext.refl _) (by kernel_rfl) (by kernel_rfl) ?_; (repeat (go_big_quiet_step (fail))); refine wpQuiet_nil ?_; intro _ hw'; obtain ⟨y, hw''⟩ := hw'; subst hw'')
                              go_wp2
                              go_roundw
                              case rel => exact ⟨t + 1, u + 1, u, by omega, by go_num, rfl, rfl, lh_next HP.out ht1 HA.out HB.out (lhStep_5 C.out), by omega, by omega, hx2.trans y.ext⟩
                              case measure => simp [intOf]; omega
                          · cases t5 : decide (a - r < b)
                            · cases t1 : (r == 0)
                              · go_wp2_with fail
                                (refine wp_region_after wr (Ext.refl _) (by kernel_rfl) (by kernel_rfl) ?_; (repeat (go_big_quiet_step (fail))); refine wpQuiet_nil ?_; intro _ hw'; obtain ⟨y, hw''⟩ := hw'; subst hw'')
                                go_wp2
                                go_roundw
                                case rel => exact ⟨t + 1, u + 1, u, by omega, by go_num, rfl, rfl, lh_next HP.out ht1 HA.out HB.out (lhStep_5 C.out), by omega, by omega, hx2.trans y.ext⟩
                                case measure => simp [intOf]; omega
                              · go_wp2_with fail
                                (refine wp_region_after wr (Ext.refl _) (by kernel_rfl) (by kernel_rfl) ?_; (repeat (go_big_quiet_step (fail))); refine wpQuiet_nil ?_; intro _ hw'; obtain ⟨y, hw''⟩ := hw'; subst hw'')
                                go_wp2
                                go_roundw
                                case rel => exact ⟨t + 1, u + 1, u, by omega, by go_num, rfl, rfl, lh_next HP.out ht1 HA.out HB.out (lhStep_5 C.out), by omega, by omega, hx2.trans y.ext⟩
                                case measure => simp [intOf]; omega
                            · exact absurd ⟨of_decide_eq_true t4, of_decide_eq_true t5⟩ C.out.2.2.2
                · obtain rfl : t = n := by omega
                  have E := Lib.hid (show possQ ls rs k = decide (l ≤ u) from by
                    have := rate_iff (rate := r) HL.out (by omega) hr.1 h2
                    rw [← HP.out] at this
                    rw [possQ, HL.out, ← HR.out]
                    exact this.symm)
                  have hxx := hx.trans hx2
                  by_cases f : l ≤ u
                  · have e1 := filtIdx_yes (q := possQ ls rs) (k := k) (by rw [E.out]; exact decide_eq_true f)
                    have l1 : (filtIdx (possQ ls rs) (k + 1)).length = (filtIdx (possQ ls rs) k).length + 1 := by rw [e1]; simp
                    have E1 := Lib.hid e1
                    have L1 := Lib.hid l1
                    have ho3 := HO.out.ext hx2
                    clear e1 l1
                    go_wp2_with (at_builtin; refine wpList_push w (by (repeat (first | exact Ext.refl _ | assumption | refine Ext.alloc ?_ _ | refine Ext.drew ?_ | refine Ext.drewN ?_ _ | refine Ext.setCell ?_ (by (try simp only [World.size_alloc, World.size_setCell, World.size_drew, World.heap_drewN]); omega) _ | refine Ext.step (by assumption) ?_))) rfl _ _ _ rfl 3 (.int .i64 0) 1 8 intInfo Try.underlying33 rfl (by omega) _ _ _ _ rfl (Own.ext ho3 (by (repeat (first | exact Ext.refl _ | assumption | refine Ext.alloc ?_ _ | refine Ext.drew ?_ | refine Ext.drewN ?_ _ | refine Ext.setCell ?_ (by (try simp only [World.size_alloc, World.size_setCell, World.size_drew, World.heap_drewN]); omega) _ | refine Ext.step (by assumption) ?_)))) _ _ _ rfl (by exact heap_last (by first | rfl | simp)) rfl (by simp [Value.oneCell']) (by omega) (by omega) ?_; intro A2 c2 w2 ho2 hx2)
                    have HO2 := Lib.hid ho2
                    clear ho2 ho3
                    go_wp2
                    go_roundw
                    case rel => exact ⟨k + 1, A2, c2, by omega, by go_num, by rw [L1.out], by rw [L1.out, E1.out, ← ints_snoc]; exact HO2.out, hx2⟩
                    case measure => simp [intOf]; omega
                  · have e1 := filtIdx_no (q := possQ ls rs) (k := k) (by rw [E.out]; exact decide_eq_false f)
                    have E1 := Lib.hid e1
                    clear e1
                    go_wp2
                    go_roundw
                    case rel => exact ⟨k + 1, A', c', by omega, by go_num, by rw [E1.out], by rw [E1.out]; exact HO.out.ext hx2, hxx⟩
                    case measure => simp [intOf]; omega
            · obtain rfl : k = m := by omega
              go_wp2
              go_ret
              rw [H.out]
              exact ⟨_, _, rfl, ho, hx⟩
        · have H := Lib.hid (possF_no (ls := ls) (rs := rs) (fun e => h4 e.2.2))
          go_enter Try.func22, Try.ntmps22
          go_wp2_with (first | (go_at_call 30; refine (within_c _ _ _ _).mono ?_; rintro e w' ⟨rfl, rfl⟩) | (go_at_call 33; refine (allWithin_c _ _ _ _ _ _ _ (by assumption)).mono ?_; rintro e w' ⟨rfl, rfl⟩))
          go_ret
          rw [H.out]
          exact Fresh.nil_ (Ext.refl _)
      · have H := Lib.hid (possF_no (ls := ls) (rs := rs) (fun e => h3 (by rw [← HL'.out]; exact e.2.1)))
        go_enter Try.func22, Try.ntmps22
        go_wp2_with (first | (go_at_call 30; refine (within_c _ _ _ _).mono ?_; rintro e w' ⟨rfl, rfl⟩) | (go_at_call 33; refine (allWithin_c _ _ _ _ _ _ _ (by assumption)).mono ?_; rintro e w' ⟨rfl, rfl⟩))
        go_ret
        rw [H.out]
        exact Fresh.nil_ (Ext.refl _)
    · have H := Lib.hid (possF_no (ls := ls) (rs := rs) (fun e => h2 (levB_at HL.out e.1).2))
      go_enter Try.func22, Try.ntmps22
      go_wp2_with (first | (go_at_call 30; refine (within_c _ _ _ _).mono ?_; rintro e w' ⟨rfl, rfl⟩) | (go_at_call 33; refine (allWithin_c _ _ _ _ _ _ _ (by assumption)).mono ?_; rintro e w' ⟨rfl, rfl⟩))
      go_ret
      rw [H.out]
      exact Fresh.nil_ (Ext.refl _)
  · have H := Lib.hid (possF_no (ls := ls) (rs := rs) (fun e => h1 (inB_mk (by have := (levB_at HL.out e.1).1; omega))))
    go_enter Try.func22, Try.ntmps22
    go_wp2_with (first | (go_at_call 30; refine (within_c _ _ _ _).mono ?_; rintro e w' ⟨rfl, rfl⟩) | (go_at_call 33; refine (allWithin_c _ _ _ _ _ _ _ (by assumption)).mono ?_; rintro e w' ⟨rfl, rfl⟩))
    go_ret
    rw [H.out]
    exact Fresh.nil_ (Ext.refl _)
set_option maxRecDepth 100000 in
set_option maxHeartbeats 12800000 in
theorem sPoss_c (A B : Option Addr) (n c m d : Nat) (ls rs : List Int) (w : World) (h : Holds w 1 A n c (ints ls)) (h' : Holds w 1 B m d (ints rs)) :
    Calls Try.prog 21 #[.slice A n c, .slice B m d] w (Fresh 3 1 (possF ls rs).length (ints (possF ls rs)) w) := by
  have hmx : n ≤ 9223372036854775807 := by have := h.2.1; have := h.2.2.1; unfold maxLen at this; omega
  have hmx' : m ≤ 9223372036854775807 := by have := h'.2.1; have := h'.2.2.1; unfold maxLen at this; omega
  have HL := Lib.hid h.intlen
  have HL' := Lib.hid h'.intlen
  have hb0 := Own.lit (w := w.alloc (.cells #[] 3)) (base := w.heap.size) (e := 3) (k := 1) (n := 0) (cs := #[]) (heap_alloc_new _ _) (Nat.zero_le _) rfl
  have hxa : Ext w (w.alloc (.cells #[] 3)) := by (repeat (first | exact Ext.refl _ | assumption | refine Ext.alloc ?_ _ | refine Ext.drew ?_ | refine Ext.drewN ?_ _ | refine Ext.setCell ?_ (by (try simp only [World.size_alloc, World.size_setCell, World.size_drew, World.heap_drewN]); omega) _ | refine Ext.step (by assumption) ?_))
  have g := h.ext hxa
  have g' := h'.ext hxa
  by_cases h1 : levB ls 2 = true
  · obtain ⟨⟨n1, n2⟩, h2⟩ := levB_at HL.out h1
    by_cases h3 : m ≤ 10
    · go_enter Try.func21, Try.ntmps21
      go_wp2_with (go_at_call 31; refine (l17Levels_c _ _ _ ls 2 _ (by assumption) (by omega) _ rfl).mono ?_; rintro e w' ⟨rfl, rfl⟩)
      go_loop [6] (fun i => ∃ k : Nat, k ≤ m ∧ i = .int .i64 k ∧ Hid (∀ j, j < k → inB (nth rs j) 0 1000 = true)) (fun i => m - (intOf i).toNat)
      case atStart => exact ⟨0, Nat.zero_le _, rfl, fun j hj => by omega⟩
      case round =>
        obtain ⟨k, hk, rfl, hall⟩ := hrel
        by_cases hlt : k < m
        · obtain ⟨b', off', hB, hb', hc'⟩ := g'.int (by omega)
          subst hB
          have e0 := hc' k hlt
          have j0 : (0 : Int) ≤ (k : Int) := by omega
          have j1 : (k : Int) < (m : Int) := by omega
          clear hc'
          by_cases t : inB (nth rs k) 0 1000 = true
          · go_wp2_with (go_at_call 29; refine (l01In_c _ _ _ _).mono ?_; rintro e w' ⟨rfl, rfl⟩)
            go_round
            case rel => exact ⟨k + 1, by omega, by go_num, fun j hj => by
              rcases Nat.lt_succ_iff_lt_or_eq.1 hj with hj | rfl
              · exact hall.out j hj
              · exact t⟩
            case measure => simp [intOf]; omega
          · have H := Lib.hid (possF_no (ls := ls) (rs := rs) (fun e => t (inB_mk (allB_at e.2.2 (by rw [HL'.out]; exact hlt)))))
            go_wp2_with (go_at_call 29; refine (l01In_c _ _ _ _).mono ?_; rintro e w' ⟨rfl, rfl⟩)
            go_ret
            rw [H.out]
            exact ⟨_, _, rfl, Own.mono (Own.lit (cs := #[]) (heap_last (by simp)) (Nat.zero_le _) rfl) (by omega), by (repeat (first | exact Ext.refl _ | assumption | refine Ext.alloc ?_ _ | refine Ext.drew ?_ | refine Ext.drewN ?_ _ | refine Ext.setCell ?_ (by (try simp only [World.size_alloc, World.size_setCell, World.size_drew, World.heap_drewN]); omega) _ | refine Ext.step (by assumption) ?_))⟩
        · obtain rfl : k = m := by omega
          have h4 : allB rs 0 1000 = true := allB_yes (fun j hj => hall.out j (by rw [HL'.out] at hj; exact hj))
          have P := Lib.hid (show possOk ls rs from ⟨h1, by rw [HL'.out]; exact h3, h4⟩)
          have H := Lib.hid (show possF ls rs = filtIdx (possQ ls rs) k from by rw [possF_yes P.out, HL'.out])
          obtain ⟨b, off, hA, hb, hc⟩ := g.int (by omega)
          subst hA
          have HC := Lib.hid hc
          have HG := Lib.hid g
          have HG' := Lib.hid g'
          clear hc g g'
          have HH := Lib.hid h
          have HH' := Lib.hid h'
          clear h h'
          go_wp2
          go_loopw [5, 7] (fun v i wr => ∃ (t : Nat) (A' : Option Addr) (c' : Nat), t ≤ k ∧ i = .int .i64 t ∧ v = .slice A' (filtIdx (possQ ls rs) t).length c' ∧ Own wr w.heap.size 3 1 A' (filtIdx (possQ ls rs) t).length c' (ints (filtIdx (possQ ls rs) t)) ∧ Ext w wr) (fun _ i _ => k - (intOf i).toNat)
          case atStart => exact ⟨0, _, 0, Nat.zero_le _, rfl, rfl, hb0, hxa⟩
          case round =>
            clear hb0
            obtain ⟨t, A', c', ht, rfl, rfl, ho, hx⟩ := hrel
            have hgg := Lib.hid (And.intro (HH.out.ext hx) (HH'.out.ext hx))
            by_cases hlt : t < k
            · obtain ⟨b', off', hB, hb', hc'⟩ := hgg.out.2.int (by omega)
              subst hB
              obtain ⟨b2, off2, hA2, hb2, hc2⟩ := hgg.out.1.int (by omega)
              injection hA2 with hA2
              injection hA2 with e1 e2
              subst e1
              subst e2
              have q0 := After.got (w := wr) (hc' t hlt)
              have q1 := After.got (w := wr) (hc2 (n - 1) (by omega))
              have j0 : (0 : Int) ≤ (t : Int) := by omega
              have j1 : (t : Int) < (k : Int) := by omega
              have i0 : (0 : Int) ≤ (n : Int) - 1 := by omega
              have i1 : (n : Int) - 1 < (n : Int) := by omega
              have i2 : (0 : Int) < (n : Int) := by omega
              have hr := allB_at h4 (show t < rs.length by rw [HL'.out]; exact hlt)
              have hh := allB_at h2 (show n - 1 < ls.length by rw [HL.out]; omega)
              have E := Lib.hid (show possQ ls rs t = explB ls (nth rs t) (nth ls (n - 1)) from by rw [possQ, HL.out])
              have hq := filtIdx_len (possQ ls rs) t
              have hr' : -100000 ≤ nth rs t ∧ nth rs t ≤ 100000 := by omega
              clear hc' hc2
              cases f : explB ls (nth rs t) (nth ls (n - 1))
              · have e1 := filtIdx_no (q := possQ ls rs) (k := t) (by rw [E.out]; exact f)
                have E1 := Lib.hid e1
                clear e1
                go_wp2_with fail
                (refine wp_region_after wr (Ext.refl _) (by kernel_rfl) (by kernel_rfl) ?_; (repeat (go_big_quiet_step ((go_at_call 32; refine after_call (v := .bool false) ?_; rw [← f]; exact (l17Explains_c _ _ _ ls _ _ _ (hgg.out.1.ext (After.ext _)) h2 hr' hh))))); refine wpQuiet_nil ?_; intro _ hw'; obtain ⟨y, hw''⟩ := hw'; subst hw'')
                go_wp2
                go_roundw
                case rel => exact ⟨t + 1, A', c', by omega, by go_num, by rw [E1.out], by rw [E1.out]; exact ho.ext y.ext, hx.trans y.ext⟩
                case measure => simp [intOf]; omega
              · have e1 := filtIdx_yes (q := possQ ls rs) (k := t) (by rw [E.out]; exact f)
                have l1 : (filtIdx (possQ ls rs) (t + 1)).length = (filtIdx (possQ ls rs) t).length + 1 := by rw [e1]; simp
                have E1 := Lib.hid e1
                have L1 := Lib.hid l1
                clear e1 l1
                go_wp2_with fail
                (refine wp_region_after wr (Ext.refl _) (by kernel_rfl) (by kernel_rfl) ?_; (repeat (go_big_quiet_step ((go_at_call 32; refine after_call (v := .bool true) ?_; rw [← f]; exact (l17Explains_c _ _ _ ls _ _ _ (hgg.out.1.ext (After.ext _)) h2 hr' hh))))); refine wpQuiet_nil ?_; intro _ hw'; obtain ⟨y, hw''⟩ := hw'; subst hw'')
                have hxy := hx.trans y.ext
                have hoy := ho.ext y.ext
                have hg1 := Lib.hid (hgg.out.1.ext y.ext)
                have hg2 := Lib.hid (hgg.out.2.ext y.ext)
                have hn1 : w.heap.size ≤ y.now.heap.size := hxy.len
                go_wp2_with (at_builtin; refine wpList_push w (by (repeat (first | exact Ext.refl _ | assumption | refine Ext.alloc ?_ _ | refine Ext.drew ?_ | refine Ext.drewN ?_ _ | refine Ext.setCell ?_ (by (try simp only [World.size_alloc, World.size_setCell, World.size_drew, World.heap_drewN]); omega) _ | refine Ext.step (by assumption) ?_))) rfl _ _ _ rfl 3 (.int .i64 0) 1 8 intInfo Try.underlying33 rfl (by omega) _ _ _ _ rfl (Own.ext hoy (by (repeat (first | exact Ext.refl _ | assumption | refine Ext.alloc ?_ _ | refine Ext.drew ?_ | refine Ext.drewN ?_ _ | refine Ext.setCell ?_ (by (try simp only [World.size_alloc, World.size_setCell, World.size_drew, World.heap_drewN]); omega) _ | refine Ext.step (by assumption) ?_)))) _ _ _ rfl (by exact heap_last (by first | rfl | simp)) rfl (by simp [Value.oneCell']) (by omega) (by omega) ?_; intro A2 c2 w2 ho2 hx2)
                have HO2 := Lib.hid ho2
                clear ho2 ho hoy
                go_wp2
                go_roundw
                case rel => exact ⟨t + 1, A2, c2, by omega, by go_num, by rw [L1.out], by rw [L1.out, E1.out, ← ints_snoc]; exact HO2.out, hx2⟩
                case measure => simp [intOf]; omega
            · obtain rfl : t = k := by omega
              go_wp2
              go_ret
              rw [H.out]
              exact ⟨_, _, rfl, ho, hx⟩
    · have H := Lib.hid (possF_no (ls := ls) (rs := rs) (fun e => h3 (by rw [← HL'.out]; exact e.2.1)))
      go_enter Try.func21, Try.ntmps21
      go_wp2_with (go_at_call 31; refine (l17Levels_c _ _ _ ls 2 _ (by assumption) (by omega) _ rfl).mono ?_; rintro e w' ⟨rfl, rfl⟩)
      go_ret
      rw [H.out]
      exact ⟨_, _, rfl, hb0, hxa⟩
  · have H := Lib.hid (possF_no (ls := ls) (rs := rs) (fun e => h1 e.1))
    go_enter Try.func21, Try.ntmps21
    go_wp2_with (go_at_call 31; refine (l17Levels_c _ _ _ ls 2 _ (by assumption) (by omega) _ rfl).mono ?_; rintro e w' ⟨rfl, rfl⟩)
    go_ret
    rw [H.out]
    exact ⟨_, _, rfl, hb0, hxa⟩

end Go.Proofs.Ytdaokpfomoiboaa
