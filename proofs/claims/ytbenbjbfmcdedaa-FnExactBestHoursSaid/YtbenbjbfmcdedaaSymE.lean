/-
  The great case of symMerge (sym_great), and symMerge's contract (sym_c). Conditions: those of sym_one.
-/
import Derived.Test.YtbenbjbfmcdedaaSymD
namespace Go.Proofs.Ytbenbjbfmcdedaa
open Go.RowKit

set_option maxRecDepth 100000 in
set_option maxHeartbeats 6400000 in
theorem sym_great (base r n c g N : Nat) (cb : Array Value) (key : Int → Int) (eg : ∀ args w, (callFunc g args).run Try.prog w = .ok (.enter g args) w) (hn : n ≤ 1000) (d : Nat) (IH : SymSays base r n c g N cb key d) (a m b : Nat) (zs : List Int) (w : World) (hd : b - a ≤ d + 1) (ham : a + 1 < m) (hmb : m + 1 < b) (hb : b ≤ n)
    (hO : Own w base 3 1 (some ⟨r, 0, none⟩) n c (ints zs)) (hC : CmpOk g cb key N w (some r)) (hN : ∀ i, i < n → 0 ≤ nth zs i ∧ nth zs i < N) (hM : Mrg key zs a m b) :
    Calls Try.prog 68 #[.slice (some ⟨r, 0, none⟩) n c, .int .i64 a, .int .i64 m, .int .i64 b, .func (.func g) #[] cb] w fun e w' => e = .returned (.tuple #[]) ∧ ∃ ds', Srt key zs ds' a b ∧ Own w' base 3 1 (some ⟨r, 0, none⟩) n c (ints ds') ∧ w.grownBy w' (some r) := by
  have hl : zs.length = n := by have := hO.len; rw [ints_len] at this; omega
  have HO0 := Lib.hid hO
  have HC := Lib.hid hC
  have HN := Lib.hid hN
  have HM := Lib.hid hM
  have HIH := Lib.hid IH
  obtain ⟨l0, hl0⟩ : ∃ l0 : Int, l0 = (m : Int) - (a : Int) := ⟨_, rfl⟩
  have w0 : IntKind.i64.wrap ((m : Int) - (a : Int)) = l0 := (IntWalk.i64_in _ (by omega)).trans hl0.symm
  have w0' : (l0 == 1) = false := by simp; omega
  obtain ⟨l1, hl1⟩ : ∃ l1 : Int, l1 = (b : Int) - (m : Int) := ⟨_, rfl⟩
  have w1 : IntKind.i64.wrap ((b : Int) - (m : Int)) = l1 := (IntWalk.i64_in _ (by omega)).trans hl1.symm
  have w1' : (l1 == 1) = false := by simp; omega
  have hmn : a < m ∧ m < b ∧ b ≤ 1000 := by omega
  have HD := Lib.hid (show a + 1 < m ∧ m + 1 < b ∧ b - a ≤ d + 1 from ⟨ham, hmb, hd⟩)
  clear hl0 hl1 hO hC hN hM IH hd ham hmb
  go_enter Try.func68, Try.ntmps68
  go_upto_region 25 with fail
  obtain ⟨mid, hmid⟩ : ∃ k : Nat, k = (a + b) / 2 := ⟨_, rfl⟩
  have ek : ((a : Int) + (b : Int)) / 2 = (mid : Int) := by rw [hmid]; simp
  rw [ek]
  have hmb2 : a ≤ mid ∧ mid < b := by omega
  have HALF := Lib.hid (show 2 * mid ≤ a + b ∧ a + b ≤ 2 * mid + 1 from by omega)
  obtain ⟨nn, hnn⟩ : ∃ nn, nn = mid + m := ⟨_, rfl⟩
  have wn : IntKind.i64.wrap ((mid : Int) + (m : Int)) = (nn : Int) := (IntWalk.i64_in _ (by omega)).trans (by omega)
  obtain ⟨pp, hpp⟩ : ∃ pp, pp = nn - 1 := ⟨_, rfl⟩
  have wp : IntKind.i64.wrap ((nn : Int) - 1) = (pp : Int) := (IntWalk.i64_in _ (by omega)).trans (by omega)
  have HNN := Lib.hid hnn
  have HPP := Lib.hid hpp
  have hnb : nn ≤ 2000 := by omega
  have SPLIT := Lib.hid (show (mid < m ∧ SRoom a m b mid (nn - b) mid ∧ b ≤ nn) ∨ (¬ mid < m ∧ SRoom a m b mid a m) from by
    by_cases h : mid < m
    · exact .inl ⟨h, by rw [hnn]; exact SRoom.above (by omega) h hmn.2.1 hmn.1, by have := HD.out; omega⟩
    · exact .inr ⟨h, SRoom.below (by omega) h hmn.2.1 hmn.1⟩)
  clear hmid ek hnn hpp
  go_upto_if 140 with fail
  go_cut [20, 21] from 141 to 146 (fun v20 v21 wx => ∃ s0 r0 : Nat, v20 = .int .i64 (s0 : Int) ∧ v21 = .int .i64 (r0 : Int) ∧ SRoom a m b mid s0 r0 ∧ w = wx)
  case first =>
    rcases SPLIT.out with ⟨h, hr, hbn⟩ | ⟨h, hr⟩
    · have dm : decide (mid < m) = true := decide_eq_true h
      have ws : IntKind.i64.wrap ((nn : Int) - (b : Int)) = ((nn - b : Nat) : Int) := (IntWalk.i64_in _ (by omega)).trans (by omega)
      have HR := Lib.hid hr
      clear hr hbn
      go_wp2_with fail
      go_meet
      exact ⟨nn - b, mid, rfl, rfl, HR.out, rfl⟩
    · have dm : decide (mid < m) = false := decide_eq_false h
      have HR := Lib.hid hr
      clear hr
      go_wp2_with fail
      go_meet
      exact ⟨a, m, rfl, rfl, HR.out, rfl⟩
  case rest =>
    obtain ⟨s0, r0, rfl, rfl, hr, rfl⟩ := hcut
    have HR := Lib.hid hr
    have hs0 : a ≤ s0 ∧ s0 ≤ r0 ∧ r0 ≤ m ∧ r0 ≤ mid := ⟨hr.low.1, hr.low.2.2, hr.high.1, hr.high.2⟩
    have hs1 : nn ≤ s0 + b := by have := hr.low.2.1; have := HNN.out; omega
    clear hr SPLIT
    go_wp2_with fail
    go_loopw [20, 21] (fun x y wr => ∃ i j : Nat, (s0 ≤ i ∧ i ≤ j ∧ j ≤ r0) ∧ x = .int .i64 (i : Int) ∧ y = .int .i64 (j : Int) ∧ Hid (SCutM key zs pp s0 r0 i j) ∧ Ext w wr) (fun x y _ => (intOf y).toNat - (intOf x).toNat)
    case atStart => exact ⟨s0, r0, by omega, rfl, rfl, ⟨.inl rfl, .inl rfl⟩, Ext.refl _⟩
    case round =>
      obtain ⟨i, j, hij, rfl, rfl, hs, hx⟩ := hrel
      by_cases hlt : i < j
      · have dk : decide (i < j) = true := decide_eq_true hlt
        go_upto_region 35 with fail
        obtain ⟨k, hk⟩ : ∃ k : Nat, k = (i + j) / 2 := ⟨_, rfl⟩
        have ek : ((i : Int) + (j : Int)) / 2 = (k : Int) := by rw [hk]; simp
        rw [ek]
        have hkb : i ≤ k ∧ k < j := by omega
        clear hk ek
        obtain ⟨y, hy⟩ : ∃ y, y = pp - k := ⟨_, rfl⟩
        have hyb : y < b ∧ k ≤ pp := by have := HPP.out; have := HNN.out; omega
        have wy : IntKind.i64.wrap ((pp : Int) - (k : Int)) = (y : Int) := (IntWalk.i64_in _ (by omega)).trans (by omega)
        have oo := HO0.out.ext hx
        have c0 := World.ownsRow.cellAt oo k (by omega)
        have c1 := World.ownsRow.cellAt oo y (by omega)
        rw [ints_get zs k (by omega)] at c0
        rw [ints_get zs y (by omega)] at c1
        have HCC := Lib.hid (fun w' (x : Ext wr w') => HC.out w' (grown_ext (World.grownBy.refl _ _) (hx.trans x)) (nth zs y) (nth zs k) (HN.out y (by omega)) (HN.out k (by omega)))
        have YES := Lib.hid (fun (h : key (nth zs y) < key (nth zs k)) => show SCutM key zs pp s0 r0 i k from ⟨hs.out.1, .inr ⟨by omega, by rw [← hy]; exact h⟩⟩)
        have NOPE := Lib.hid (fun (h : ¬ key (nth zs y) < key (nth zs k)) => show SCutM key zs pp s0 r0 (k + 1) j from ⟨.inr ⟨by omega, by rw [Nat.add_sub_cancel, ← hy]; exact h⟩, hs.out.2⟩)
        obtain ⟨u, hu⟩ : ∃ u, u = nth zs k := ⟨_, rfl⟩
        obtain ⟨v, hv⟩ : ∃ v, v = nth zs y := ⟨_, rfl⟩
        rw [← hu] at c0 HCC YES NOPE
        rw [← hv] at c1 HCC YES NOPE
        clear hu hv hy
        have k0 : (0 : Int) ≤ (k : Int) := by omega
        have k1 : (k : Int) < (n : Int) := by omega
        have a0 : (0 : Int) ≤ (y : Int) := by omega
        have a1 : (y : Int) < (n : Int) := by omega
        clear oo
        by_cases hkk : key v < key u
        · have dc : decide (key v - key u < 0) = true := decide_eq_true (by omega)
          have Y := Lib.hid (YES.out hkk)
          clear hkk
          go_wp2_with fail
          go_region_held3 (fun w' => w'.cell? ⟨r, k, none⟩ = some (.int .i64 u) ∧ w'.cell? ⟨r, y, none⟩ = some (.int .i64 v)) (first | go_keep | exact ⟨c0, c1⟩ | (refine ⟨?_, ?_⟩ <;> assumption)) ((go_at_fn g; refine (HCC.out _ (by (repeat (first | exact Ext.refl _ | assumption | refine Ext.alloc ?_ _ | refine Ext.drew ?_ | refine Ext.drewN ?_ _ | refine Ext.setCell ?_ (by (try simp only [World.size_alloc, World.size_setCell, World.size_drew, World.heap_drewN]); omega) _ | refine Ext.step (by assumption) ?_)))).mono ?_; rintro e w2 ⟨rfl, x2⟩; have c2 := x2.got (Ext.got (w1 := _) (by (repeat (first | exact Ext.refl _ | assumption | refine Ext.alloc ?_ _ | refine Ext.drew ?_ | refine Ext.drewN ?_ _ | refine Ext.setCell ?_ (by (try simp only [World.size_alloc, World.size_setCell, World.size_drew, World.heap_drewN]); omega) _ | refine Ext.step (by assumption) ?_))) c0); have c3 := x2.got (Ext.got (w1 := _) (by (repeat (first | exact Ext.refl _ | assumption | refine Ext.alloc ?_ _ | refine Ext.drew ?_ | refine Ext.drewN ?_ _ | refine Ext.setCell ?_ (by (try simp only [World.size_alloc, World.size_setCell, World.size_drew, World.heap_drewN]); omega) _ | refine Ext.step (by assumption) ?_))) c1)))
          all_goals
            go_wp2_with fail
            go_roundw
            case rel => exact ⟨i, k, by omega, rfl, rfl, Y.out, hx.trans (by (repeat (first | exact Ext.refl _ | assumption | refine Ext.alloc ?_ _ | refine Ext.drew ?_ | refine Ext.drewN ?_ _ | refine Ext.setCell ?_ (by (try simp only [World.size_alloc, World.size_setCell, World.size_drew, World.heap_drewN]); omega) _ | refine Ext.step (by assumption) ?_)))⟩
            case measure => simp [intOf]; omega
        · have dc : decide (key v - key u < 0) = false := decide_eq_false (by omega)
          have Y := Lib.hid (NOPE.out hkk)
          clear hkk
          go_wp2_with fail
          go_region_held3 (fun w' => w'.cell? ⟨r, k, none⟩ = some (.int .i64 u) ∧ w'.cell? ⟨r, y, none⟩ = some (.int .i64 v)) (first | go_keep | exact ⟨c0, c1⟩ | (refine ⟨?_, ?_⟩ <;> assumption)) ((go_at_fn g; refine (HCC.out _ (by (repeat (first | exact Ext.refl _ | assumption | refine Ext.alloc ?_ _ | refine Ext.drew ?_ | refine Ext.drewN ?_ _ | refine Ext.setCell ?_ (by (try simp only [World.size_alloc, World.size_setCell, World.size_drew, World.heap_drewN]); omega) _ | refine Ext.step (by assumption) ?_)))).mono ?_; rintro e w2 ⟨rfl, x2⟩; have c2 := x2.got (Ext.got (w1 := _) (by (repeat (first | exact Ext.refl _ | assumption | refine Ext.alloc ?_ _ | refine Ext.drew ?_ | refine Ext.drewN ?_ _ | refine Ext.setCell ?_ (by (try simp only [World.size_alloc, World.size_setCell, World.size_drew, World.heap_drewN]); omega) _ | refine Ext.step (by assumption) ?_))) c0); have c3 := x2.got (Ext.got (w1 := _) (by (repeat (first | exact Ext.refl _ | assumption | refine Ext.alloc ?_ _ | refine Ext.drew ?_ | refine Ext.drewN ?_ _ | refine Ext.setCell ?_ (by (try simp only [World.size_alloc, World.size_setCell, World.size_drew, World.heap_drewN]); omega) _ | refine Ext.step (by assumption) ?_))) c1)))
          all_goals
            go_wp2_with fail
            go_roundw
            case rel => exact ⟨k + 1, j, by omega, by go_num, rfl, Y.out, hx.trans (by (repeat (first | exact Ext.refl _ | assumption | refine Ext.alloc ?_ _ | refine Ext.drew ?_ | refine Ext.drewN ?_ _ | refine Ext.setCell ?_ (by (try simp only [World.size_alloc, World.size_setCell, World.size_drew, World.heap_drewN]); omega) _ | refine Ext.step (by assumption) ?_)))⟩
            case measure => simp [intOf]; omega
      · obtain rfl : i = j := by omega
        have dk : decide (i < i) = false := decide_eq_false (by omega)
        have OO := Lib.hid (HO0.out.ext hx)
        have GG := Lib.hid (grown_ext (World.grownBy.refl w (some r)) hx)
        obtain ⟨e, he⟩ : ∃ e, e = nn - i := ⟨_, rfl⟩
        have we : IntKind.i64.wrap ((nn : Int) - (i : Int)) = (e : Int) := (IntWalk.i64_in _ (by have := HNN.out; omega)).trans (by have := HNN.out; omega)
        have PT := Lib.hid (show Part key zs a m b mid i e from by rw [he, HNN.out]; exact part_of HM.out HR.out (by have := hs.out; rw [HPP.out, HNN.out] at this; exact this) (by omega))
        have hie : i ≤ m ∧ m ≤ e ∧ e ≤ b ∧ a ≤ i ∧ i ≤ mid ∧ mid ≤ e := by have := PT.out.s1; have := PT.out.e1; have := HNN.out; omega
        clear he hs hx HO0
        go_upto_region 39 with fail
        obtain ⟨q1, hq1⟩ : ∃ q1, q1 = decide (i < m ∧ m < e) := ⟨_, rfl⟩
        go_cut [185] from 178 to 185 (fun v wx => v = .bool q1 ∧ wr = wx)
        case first =>
          by_cases h1 : i < m
          · by_cases h2 : m < e
            · have d1 : decide (i < m) = true := decide_eq_true h1
              have d2 : decide (m < e) = true := decide_eq_true h2
              have e1 : q1 = true := hq1.trans (decide_eq_true ⟨h1, h2⟩)
              clear hq1 h1 h2
              subst e1
              go_wp2_with fail
              go_meet
              exact ⟨rfl, rfl⟩
            · have d1 : decide (i < m) = true := decide_eq_true h1
              have d2 : decide (m < e) = false := decide_eq_false h2
              have e1 : q1 = false := hq1.trans (decide_eq_false fun h => h2 h.2)
              clear hq1 h1 h2
              subst e1
              go_wp2_with fail
              go_meet
              exact ⟨rfl, rfl⟩
          · have d1 : decide (i < m) = false := decide_eq_false h1
            have e1 : q1 = false := hq1.trans (decide_eq_false fun h => h1 h.1)
            clear hq1 h1
            subst e1
            go_wp2_with fail
            go_meet
            exact ⟨rfl, rfl⟩
        case rest =>
          obtain ⟨rfl, rfl⟩ := hcut
          have HQq1 := Lib.hid hq1
          clear hq1
          go_upto_if 185 with fail
          go_cut [191] from 186 to 191 (fun v191 wx => ∃ ds, ds.Perm zs ∧ (∀ p, nth ds p = rotN zs i m e p) ∧ Own wx base 3 1 (some ⟨r, 0, none⟩) n c (ints ds) ∧ w.grownBy wx (some r))
          case first =>
            by_cases h1 : i < m ∧ m < e
            · have e1 : q1 = true := HQq1.out.trans (decide_eq_true h1)
              have CR := Lib.hid (rotate_c base r n c i m e zs (.func (.func g) #[] cb) wr OO.out hn h1.1 h1.2 (by omega))
              clear h1 HQq1
              subst e1
              go_wp2_with fail
              refine CR.out.mono ?_; rintro e2 w3 ⟨rfl, ds, p3, r3, o3, g3⟩
              have P3 := Lib.hid p3
              have R3 := Lib.hid r3
              have O3 := Lib.hid o3
              have G3 := Lib.hid (grown_trans GG.out g3)
              clear p3 r3 o3 g3 CR
              go_wp2_with fail
              go_meet
              exact ⟨ds, P3.out, R3.out, O3.out, G3.out⟩
            · have e1 : q1 = false := HQq1.out.trans (decide_eq_false h1)
              have R3 := Lib.hid (rotN_none (zs := zs) (s := i) (m := m) (e := e) (by omega) (by omega) (by omega))
              clear h1 HQq1
              subst e1
              go_wp2_with fail
              go_meet
              exact ⟨zs, .refl _, R3.out, OO.out, GG.out⟩
          case rest =>
            obtain ⟨ds, p3, r3, o3, g3⟩ := hcut
            have TR := Part.turned HM.out PT.out r3
            have TA := Lib.hid TR.1
            have TB := Lib.hid TR.2.1
            have TL := Lib.hid TR.2.2
            have P3 := Lib.hid p3
            have R3 := Lib.hid r3
            have O3 := Lib.hid o3
            have G3 := Lib.hid g3
            have N3 := Lib.hid (bd_perm (P := fun x => 0 ≤ x ∧ x < (N : Int)) hl p3 HN.out)
            clear TR p3 r3 o3 g3 OO GG HQq1
            generalize wc = wA at *
            go_upto_region 41 with fail
            obtain ⟨q2, hq2⟩ : ∃ q2, q2 = decide (a < i ∧ i < mid) := ⟨_, rfl⟩
            go_cut [199] from 192 to 199 (fun v wx => v = .bool q2 ∧ wA = wx)
            case first =>
              by_cases h1 : a < i
              · by_cases h2 : i < mid
                · have d1 : decide (a < i) = true := decide_eq_true h1
                  have d2 : decide (i < mid) = true := decide_eq_true h2
                  have e1 : q2 = true := hq2.trans (decide_eq_true ⟨h1, h2⟩)
                  clear hq2 h1 h2
                  subst e1
                  go_wp2_with fail
                  go_meet
                  exact ⟨rfl, rfl⟩
                · have d1 : decide (a < i) = true := decide_eq_true h1
                  have d2 : decide (i < mid) = false := decide_eq_false h2
                  have e1 : q2 = false := hq2.trans (decide_eq_false fun h => h2 h.2)
                  clear hq2 h1 h2
                  subst e1
                  go_wp2_with fail
                  go_meet
                  exact ⟨rfl, rfl⟩
              · have d1 : decide (a < i) = false := decide_eq_false h1
                have e1 : q2 = false := hq2.trans (decide_eq_false fun h => h1 h.1)
                clear hq2 h1
                subst e1
                go_wp2_with fail
                go_meet
                exact ⟨rfl, rfl⟩
            case rest =>
              obtain ⟨rfl, rfl⟩ := hcut
              have HQq2 := Lib.hid hq2
              clear hq2
              go_upto_if 199 with fail
              go_cut [205] from 200 to 205 (fun v205 wx => ∃ es, Srt key ds es a mid ∧ Own wx base 3 1 (some ⟨r, 0, none⟩) n c (ints es) ∧ w.grownBy wx (some r))
              case first =>
                by_cases h1 : a < i ∧ i < mid
                · have e1 : q2 = true := HQq2.out.trans (decide_eq_true h1)
                  have CR := Lib.hid (HIH.out a i mid ds wA (by have := HD.out; have := HALF.out; omega) h1.1 h1.2 (by omega) O3.out (HC.out.later G3.out) N3.out TA.out)
                  clear h1 HQq2
                  subst e1
                  go_wp2_with fail
                  refine CR.out.mono ?_; rintro e2 w3 ⟨rfl, es, p4, o4, g4⟩
                  have P4 := Lib.hid p4
                  have O4 := Lib.hid o4
                  have G4 := Lib.hid (grown_trans G3.out g4)
                  clear p4 o4 g4 CR
                  go_wp2_with fail
                  go_meet
                  exact ⟨es, P4.out, O4.out, G4.out⟩
                · have e1 : q2 = false := HQq2.out.trans (decide_eq_false h1)
                  have P4 := Lib.hid (show Srt key ds ds a mid from by
                    have h2 := TA.out
                    by_cases h3 : a = i
                    · rw [← h3] at h2; exact h2.none_left
                    · rw [show i = mid by omega] at h2; exact h2.none_right)
                  clear h1 HQq2
                  subst e1
                  go_wp2_with fail
                  go_meet
                  exact ⟨ds, P4.out, O3.out, G3.out⟩
              case rest =>
                obtain ⟨es, p4, o4, g4⟩ := hcut
                have P4 := Lib.hid p4
                have O4 := Lib.hid o4
                have G4 := Lib.hid g4
                have N4 := Lib.hid (bd_perm (P := fun x => 0 ≤ x ∧ x < (N : Int)) (P3.out.length_eq.trans hl) p4.perm N3.out)
                have TE := Lib.hid (TB.out.out p4 (by omega))
                clear p4 o4 g4 O3 G3 HQq2
                generalize wc = wB at *
                go_upto_region 43 with fail
                obtain ⟨q3, hq3⟩ : ∃ q3, q3 = decide (mid < e ∧ e < b) := ⟨_, rfl⟩
                go_cut [213] from 206 to 213 (fun v wx => v = .bool q3 ∧ wB = wx)
                case first =>
                  by_cases h1 : mid < e
                  · by_cases h2 : e < b
                    · have d1 : decide (mid < e) = true := decide_eq_true h1
                      have d2 : decide (e < b) = true := decide_eq_true h2
                      have e1 : q3 = true := hq3.trans (decide_eq_true ⟨h1, h2⟩)
                      clear hq3 h1 h2
                      subst e1
                      go_wp2_with fail
                      go_meet
                      exact ⟨rfl, rfl⟩
                    · have d1 : decide (mid < e) = true := decide_eq_true h1
                      have d2 : decide (e < b) = false := decide_eq_false h2
                      have e1 : q3 = false := hq3.trans (decide_eq_false fun h => h2 h.2)
                      clear hq3 h1 h2
                      subst e1
                      go_wp2_with fail
                      go_meet
                      exact ⟨rfl, rfl⟩
                  · have d1 : decide (mid < e) = false := decide_eq_false h1
                    have e1 : q3 = false := hq3.trans (decide_eq_false fun h => h1 h.1)
                    clear hq3 h1
                    subst e1
                    go_wp2_with fail
                    go_meet
                    exact ⟨rfl, rfl⟩
                case rest =>
                  obtain ⟨rfl, rfl⟩ := hcut
                  have HQq3 := Lib.hid hq3
                  clear hq3
                  by_cases h1 : mid < e ∧ e < b
                  · have e1 : q3 = true := HQq3.out.trans (decide_eq_true h1)
                    have CR := Lib.hid (HIH.out mid e b es wB (by have := HD.out; have := HALF.out; omega) h1.1 h1.2 (by omega) O4.out (HC.out.later G4.out) N4.out TE.out)
                    have JN := Lib.hid (fun fs (p5 : Srt key es fs mid b) => Srt.join (key := key) (zs := zs) (a := a) (mid := mid) (b := b) (by omega) (by omega) P3.out (rot_out R3.out (by omega) (by omega) (by omega) (by omega)) (rot_src R3.out (by omega) (by omega) (by omega) (by omega)) TL.out P4.out p5)
                    clear h1 HQq3
                    subst e1
                    go_wp2_with fail
                    refine CR.out.mono ?_; rintro e2 w3 ⟨rfl, fs, p5, o5, g5⟩
                    have P5 := Lib.hid (JN.out fs p5)
                    have O5 := Lib.hid o5
                    have G5 := Lib.hid (grown_trans G4.out g5)
                    clear p5 o5 g5 CR
                    go_wp2_with fail
                    refine bodyPost_end (v := .tuple #[]) (by simp [results, Try.results68, go_sem]) rfl ?_
                    exact ⟨rfl, fs, P5.out, O5.out, G5.out⟩
                  · have e1 : q3 = false := HQq3.out.trans (decide_eq_false h1)
                    have P5 := Lib.hid (show Srt key es es mid b from by
                      have h2 := TE.out
                      by_cases h3 : mid = e
                      · rw [← h3] at h2; exact h2.none_left
                      · rw [show e = b by omega] at h2; exact h2.none_right)
                    have JN := Lib.hid (Srt.join (key := key) (zs := zs) (a := a) (mid := mid) (b := b) (by omega) (by omega) P3.out (rot_out R3.out (by omega) (by omega) (by omega) (by omega)) (rot_src R3.out (by omega) (by omega) (by omega) (by omega)) TL.out P4.out P5.out)
                    clear h1 HQq3
                    subst e1
                    go_wp2_with fail
                    refine bodyPost_end (v := .tuple #[]) (by simp [results, Try.results68, go_sem]) rfl ?_
                    exact ⟨rfl, es, JN.out, O4.out, G4.out⟩
theorem sym_c (base r n c g N : Nat) (cb : Array Value) (key : Int → Int) (eg : ∀ args w, (callFunc g args).run Try.prog w = .ok (.enter g args) w) (hn : n ≤ 1000) : ∀ d, SymSays base r n c g N cb key d
  | 0 => fun a m b zs w h1 h2 h3 h4 hO hC hN hM => by omega
  | d + 1 => fun a m b zs w h1 h2 h3 h4 hO hC hN hM => by
    by_cases c1 : m = a + 1
    · subst c1
      exact sym_one base r n c g N cb key eg hn a b zs w h3 h4 hO hC hN hM
    · by_cases c2 : b = m + 1
      · subst c2
        exact sym_last base r n c g N cb key eg hn a m zs w (by omega) h4 hO hC hN hM
      · exact sym_great base r n c g N cb key eg hn d (sym_c base r n c g N cb key eg hn d) a m b zs w h1 (by omega) (by omega) h4 hO hC hN hM
end Go.Proofs.Ytbenbjbfmcdedaa
