/-
  The contract of slices.SortStableFunc at up to 48 places: the row is sorted by key and place. Conditions: those of insertion_c.
-/
import Derived.Test.YtbenbjbfmcdedaaSymE
namespace Go.Proofs.Ytbenbjbfmcdedaa
open Go.RowKit

/-- zs is ds, sorted in blocks of s up to t -/
structure Blk (key : Int → Int) (ds zs : List Int) (s t : Nat) : Prop where
  perm : zs.Perm ds
  out : ∀ p, t ≤ p → nth zs p = nth ds p
  src : ∀ p, p < t → ∃ q, q < t ∧ q / s = p / s ∧ nth zs p = nth ds q
  up : ∀ p q, p < q → q < t → p / s = q / s → lexB key (nth zs p) (nth zs q)
theorem Blk.start (key : Int → Int) (ds : List Int) (s : Nat) : Blk key ds ds s 0 := ⟨.refl _, fun _ _ => rfl, fun p h => by omega, fun p q _ h => by omega⟩
theorem Blk.step {key : Int → Int} {ds zs es : List Int} {t u : Nat} (h : Blk key ds zs 20 t) (k : Srt key zs es t u) (ht : t % 20 = 0) (hu : t ≤ u ∧ u ≤ t + 20) : Blk key ds es 20 u := by
  refine ⟨k.perm.trans h.perm, fun p hp => by rw [k.out p (.inr hp), h.out p (by omega)], fun p hp => ?_, fun p q h1 h2 h3 => ?_⟩
  · by_cases c : p < t
    · obtain ⟨q, h1, h2, h3⟩ := h.src p c
      exact ⟨q, by omega, h2, by rw [k.out p (.inl c), h3]⟩
    · obtain ⟨q, h1, h2, h3⟩ := k.src p (by omega) hp
      exact ⟨q, h2, by omega, by rw [h3, h.out q h1]⟩
  · by_cases c : q < t
    · rw [k.out p (.inl (by omega)), k.out q (.inl c)]; exact h.up p q h1 c h3
    · exact k.up p q (by omega) h1 h2
theorem Blk.mrg {key : Int → Int} {ds zs : List Int} {s n b : Nat} (h : Blk key ds zs s n) (hs : s = 20 ∨ s = 40) (hup : ∀ p q, p < q → q < n → nth ds p < nth ds q) (hb : b ≤ 2 * s ∧ b ≤ n ∧ s ≤ n) : Mrg key zs 0 s b := by
  refine ⟨fun p q _ h1 h2 => ?_, fun p q h1 h2 h3 => ?_, fun p q _ h1 h2 h3 => ?_⟩
  · rcases hs with rfl | rfl
    · exact h.up p q h1 (by omega) (by omega)
    · exact h.up p q h1 (by omega) (by omega)
  · rcases hs with rfl | rfl
    · exact h.up p q h2 (by omega) (by omega)
    · exact h.up p q h2 (by omega) (by omega)
  · obtain ⟨x, x1, x2, x3⟩ := h.src p (by omega)
    obtain ⟨y, y1, y2, y3⟩ := h.src q (by omega)
    rw [x3, y3]
    rcases hs with rfl | rfl
    · exact hup x y (by omega) y1
    · exact hup x y (by omega) y1
theorem Blk.twice {key : Int → Int} {ds zs es : List Int} {s n b : Nat} (h : Blk key ds zs s n) (k : Srt key zs es 0 b) (hs : s = 20 ∨ s = 40) (hb : (b = 2 * s ∨ b = n) ∧ b ≤ n ∧ b ≤ 2 * s ∧ n ≤ b + s) : Blk key ds es (2 * s) n := by
  refine ⟨k.perm.trans h.perm, fun p hp => by rw [k.out p (by omega), h.out p hp], fun p hp => ?_, fun p q h1 h2 h3 => ?_⟩
  · by_cases c : p < b
    · obtain ⟨q, -, q1, q2⟩ := k.src p (Nat.zero_le _) c
      obtain ⟨x, x1, x2, x3⟩ := h.src q (by omega)
      refine ⟨x, x1, ?_, by rw [q2, x3]⟩
      rcases hs with rfl | rfl
      · omega
      · omega
    · obtain ⟨x, x1, x2, x3⟩ := h.src p hp
      refine ⟨x, x1, ?_, by rw [k.out p (by omega), x3]⟩
      rcases hs with rfl | rfl
      · omega
      · omega
  · by_cases c : q < b
    · exact k.up p q (Nat.zero_le _) h1 c
    · have hp : b ≤ p := by
        rcases hs with rfl | rfl
        · omega
        · omega
      rw [k.out p (by omega), k.out q (by omega)]
      refine h.up p q h1 h2 ?_
      rcases hs with rfl | rfl
      · omega
      · omega
theorem Blk.all {key : Int → Int} {ds zs : List Int} {s n : Nat} (h : Blk key ds zs s n) (hn : n ≤ s) : Srt key ds zs 0 n := by
  refine ⟨h.perm, fun p hp => h.out p (by omega), fun p _ hp => ?_, fun p q _ h1 h2 => h.up p q h1 h2 (by rw [Nat.div_eq_of_lt (by omega), Nat.div_eq_of_lt (by omega)])⟩
  obtain ⟨q, h1, -, h3⟩ := h.src p hp
  exact ⟨q, Nat.zero_le _, h1, h3⟩
theorem stableCmp_small (base : Nat) (A : Option Addr) (n c g N : Nat) (cb : Array Value) (key : Int → Int) (ds : List Int) (w : World) (eg : ∀ args w, (callFunc g args).run Try.prog w = .ok (.enter g args) w)
    (hO : Own w base 3 1 A n c (ints ds)) (hn : n ≤ 19) (hC : CmpOk g cb key N w (Value.slice A n c).ownBlock) (hN : ∀ i, i < n → 0 ≤ nth ds i ∧ nth ds i < N) (hup : ∀ p q, p < q → q < n → nth ds p < nth ds q) :
    Calls Try.prog 54 #[.slice A n c, .int .i64 n, .func (.func g) #[] cb] w fun e w' => e = .returned (.tuple #[]) ∧ ∃ ds', Srt key ds ds' 0 n ∧ Own w' base 3 1 A n c (ints ds') ∧ w.grownBy w' (Value.slice A n c).ownBlock := by
  have CI := insertion_c base A n c g N cb key ds 0 n w eg hO (by omega) (Nat.le_refl _) (by omega) hC hN (fun p q _ h1 h2 => hup p q h1 h2)
  have HCI := Lib.hid CI
  have d0 : decide ((20 : Int) ≤ (n : Int)) = false := decide_eq_false (by omega)
  have d1 : decide ((20 : Int) < (n : Int)) = false := decide_eq_false (by omega)
  have d2 : decide (20 ≤ n) = false := decide_eq_false (by omega)
  have d3 : decide (20 < n) = false := decide_eq_false (by omega)
  clear CI hO hC hN hup
  go_enter Try.func54, Try.ntmps54
  go_wp2_with fail
  go_loopw [7, 8] (fun a b wr => a = .int .i64 0 ∧ b = .int .i64 20 ∧ wr = w) (fun _ _ _ => 0)
  case atStart => exact ⟨rfl, rfl, rfl⟩
  case round =>
    obtain ⟨rfl, rfl, rfl⟩ := hrel
    go_wp2_with fail
    refine HCI.out.mono ?_; rintro e w1 ⟨rfl, ds', hs, ho, hg⟩
    have HS := Lib.hid hs
    have HO := Lib.hid ho
    have HG := Lib.hid hg
    clear hs ho hg HCI
    go_wp2_with fail
    go_loopw [6] (fun b wr => b = .int .i64 20 ∧ wr = w1) (fun _ _ => 0)
    case atStart => exact ⟨rfl, rfl⟩
    case round =>
      obtain ⟨rfl, rfl⟩ := hrel
      go_wp2_with fail
      refine bodyPost_end (v := .tuple #[]) (by simp [results, Try.results54, go_sem]) rfl ?_
      exact ⟨rfl, ds', HS.out, HO.out, HG.out⟩
set_option maxRecDepth 100000 in
set_option maxHeartbeats 6400000 in
theorem stableCmp_big (base r n c g N : Nat) (cb : Array Value) (key : Int → Int) (ds : List Int) (w : World) (eg : ∀ args w, (callFunc g args).run Try.prog w = .ok (.enter g args) w)
    (hO : Own w base 3 1 (some ⟨r, 0, none⟩) n c (ints ds)) (hn : 20 ≤ n ∧ n ≤ 48) (hC : CmpOk g cb key N w (some r)) (hN : ∀ i, i < n → 0 ≤ nth ds i ∧ nth ds i < N) (hup : ∀ p q, p < q → q < n → nth ds p < nth ds q) :
    Calls Try.prog 54 #[.slice (some ⟨r, 0, none⟩) n c, .int .i64 n, .func (.func g) #[] cb] w fun e w' => e = .returned (.tuple #[]) ∧ ∃ ds', Srt key ds ds' 0 n ∧ Own w' base 3 1 (some ⟨r, 0, none⟩) n c (ints ds') ∧ w.grownBy w' (some r) := by
  have hl : ds.length = n := by have := hO.len; rw [ints_len] at this; omega
  have HI := Lib.hid (fun (t u : Nat) (zs : List Int) (w1 : World) (h : Blk key ds zs 20 t) (ho : Own w1 base 3 1 (some ⟨r, 0, none⟩) n c (ints zs)) (hg : w.grownBy w1 (some r)) (ht : t ≤ n) (hu : u ≤ n) =>
    insertion_c base (some ⟨r, 0, none⟩) n c g N cb key zs t u w1 eg ho (by omega) hu (by omega) (hC.later hg) (bd_perm (P := fun x => 0 ≤ x ∧ x < (N : Int)) hl h.perm hN) (fun p q h1 h2 h3 => by rw [h.out p h1, h.out q (by omega)]; exact hup p q h2 (by omega)))
  have HS := Lib.hid (fun (s b : Nat) (zs : List Int) (w1 : World) (h : Blk key ds zs s n) (ho : Own w1 base 3 1 (some ⟨r, 0, none⟩) n c (ints zs)) (hg : w.grownBy w1 (some r)) (hs : s = 20 ∨ s = 40) (hb : s < b ∧ b ≤ n ∧ b ≤ 2 * s) =>
    sym_c base r n c g N cb key eg (by omega) b 0 s b zs w1 (by omega) (by omega) hb.1 hb.2.1 ho (hC.later hg) (bd_perm (P := fun x => 0 ≤ x ∧ x < (N : Int)) hl h.perm hN) (h.mrg hs hup ⟨hb.2.2, hb.2.1, by omega⟩))
  have HO0 := Lib.hid hO
  clear hO hC hN hup
  go_enter Try.func54, Try.ntmps54
  go_wp2_with fail
  go_loopw [7, 8] (fun a b wr => ∃ (t : Nat) (zs : List Int), (t % 20 = 0 ∧ t ≤ n) ∧ a = .int .i64 (t : Int) ∧ b = .int .i64 ((t : Int) + 20) ∧ Hid (Blk key ds zs 20 t) ∧ Own wr base 3 1 (some ⟨r, 0, none⟩) n c (ints zs) ∧ w.grownBy wr (some r)) (fun a _ _ => 100 - (intOf a).toNat)
  case atStart => exact ⟨0, ds, by omega, rfl, rfl, Blk.start key ds 20, HO0.out, World.grownBy.refl _ _⟩
  case round =>
    clear HO0
    obtain ⟨t, zs, ht, rfl, rfl, hB, ho, hg⟩ := hrel
    by_cases hlt : t + 20 ≤ n
    · obtain ⟨u, hu⟩ : ∃ u, u = t + 20 := ⟨_, rfl⟩
      have eu : (t : Int) + 20 = (u : Int) := by omega
      have hun : u ≤ n ∧ u ≤ 48 := by omega
      rw [eu]
      have dk : decide (u ≤ n) = true := decide_eq_true hun.1
      have CI := Lib.hid (HI.out t u zs wr hB.out ho hg ht.2 hun.1)
      have STEP := Lib.hid (fun es (k : Srt key zs es t u) => hB.out.step k ht.1 (by omega))
      have HU := Lib.hid hu
      have HG := Lib.hid hg
      clear ho hg hB hu eu hlt
      go_wp2_with fail
      refine CI.out.mono ?_; rintro e w1 ⟨rfl, es, k1, o1, g1⟩
      have B1 := Lib.hid (STEP.out es k1)
      have O1 := Lib.hid o1
      have G1 := Lib.hid (grown_trans HG.out g1)
      clear k1 o1 g1 CI STEP
      go_wp2_with fail
      go_roundw
      case rel => exact ⟨u, es, by have := HU.out; omega, rfl, by go_num, B1.out, O1.out, G1.out⟩
      case measure => simp only [intOf, Int.toNat_natCast]; have := HU.out; omega
    · have dk : decide ((t : Int) + 20 ≤ (n : Int)) = false := decide_eq_false (by omega)
      have CI := Lib.hid (HI.out t n zs wr hB.out ho hg ht.2 (Nat.le_refl _))
      have STEP := Lib.hid (fun es (k : Srt key zs es t n) => hB.out.step k ht.1 (by omega))
      have HG := Lib.hid hg
      clear ho hg hB hlt
      go_wp2_with fail
      refine CI.out.mono ?_; rintro e w1 ⟨rfl, es, k1, o1, g1⟩
      have B1 := Lib.hid (STEP.out es k1)
      have O1 := Lib.hid o1
      have G1 := Lib.hid (grown_trans HG.out g1)
      clear k1 o1 g1 CI STEP HG HI
      go_wp2_with fail
      go_loopw [6] (fun v wr => ∃ (ys : List Int), Own wr base 3 1 (some ⟨r, 0, none⟩) n c (ints ys) ∧ w.grownBy wr (some r) ∧ ((v = .int .i64 20 ∧ Hid (Blk key ds ys 20 n)) ∨ (v = .int .i64 40 ∧ Hid (Blk key ds ys 40 n)) ∨ (v = .int .i64 80 ∧ Hid (Blk key ds ys 80 n)))) (fun v _ => 100 - (intOf v).toNat)
      case atStart => exact ⟨es, O1.out, G1.out, .inl ⟨rfl, B1⟩⟩
      case round =>
        clear O1 G1 B1
        obtain ⟨ys, ho, hg, hv⟩ := hrel
        have O2 := Lib.hid ho
        have G2 := Lib.hid hg
        clear ho hg
        rcases hv with ⟨rfl, B2⟩ | ⟨rfl, B2⟩ | ⟨rfl, B2⟩
        · by_cases hlt : 20 < n
          · have d1 : decide ((20 : Int) < (n : Int)) = true := decide_eq_true (by omega)
            have d1n : decide (20 < n) = true := decide_eq_true (by omega)
            by_cases h40 : n < 40
            · have d3 : decide ((40 : Int) ≤ (n : Int)) = false := decide_eq_false (by omega)
              have d3n : decide (40 ≤ n) = false := decide_eq_false (by omega)
              have CM := Lib.hid (HS.out 20 n ys wr B2.out O2.out G2.out (by omega) (by omega))
              have TW := Lib.hid (fun es (k : Srt key ys es 0 n) => B2.out.twice k (by omega) (by omega))
              clear HS B2
              go_wp2_with fail
              go_loopw [7, 8] (fun a b wq => a = .int .i64 0 ∧ b = .int .i64 40 ∧ wq = wr) (fun _ _ _ => 0)
              case atStart => exact ⟨rfl, rfl, rfl⟩
              case round =>
                obtain ⟨rfl, rfl, rfl⟩ := hrel
                go_wp2_with fail
                refine CM.out.mono ?_; rintro e w3 ⟨rfl, fs, k3, o3, g3⟩
                have K3 := Lib.hid (TW.out fs k3)
                have O3 := Lib.hid o3
                have G3 := Lib.hid (grown_trans G2.out g3)
                clear k3 o3 g3 CM TW O2 G2
                go_wp2_with fail
                go_roundw
                case rel => exact ⟨fs, O3.out, G3.out, .inr (.inl ⟨rfl, K3⟩)⟩
                case measure => simp [intOf]
            · have d3 : decide ((40 : Int) ≤ (n : Int)) = true := decide_eq_true (by omega)
              have d3n : decide (40 ≤ n) = true := decide_eq_true (by omega)
              have d4 : decide ((80 : Int) ≤ (n : Int)) = false := decide_eq_false (by omega)
              have d4n : decide (80 ≤ n) = false := decide_eq_false (by omega)
              have d5 : decide ((60 : Int) < (n : Int)) = false := decide_eq_false (by omega)
              have d5n : decide (60 < n) = false := decide_eq_false (by omega)
              have CM := Lib.hid (HS.out 20 40 ys wr B2.out O2.out G2.out (by omega) (by omega))
              have TW := Lib.hid (fun es (k : Srt key ys es 0 40) => B2.out.twice k (by omega) (by omega))
              clear HS B2
              go_wp2_with fail
              go_loopw [7, 8] (fun a b wq => (a = .int .i64 0 ∧ b = .int .i64 40 ∧ wq = wr) ∨ (a = .int .i64 40 ∧ b = .int .i64 80 ∧ ∃ fs, Hid (Srt key ys fs 0 40) ∧ Own wq base 3 1 (some ⟨r, 0, none⟩) n c (ints fs) ∧ w.grownBy wq (some r))) (fun a _ _ => 100 - (intOf a).toNat)
              case atStart => exact .inl ⟨rfl, rfl, rfl⟩
              case round =>
                rcases hrel with ⟨rfl, rfl, rfl⟩ | ⟨rfl, rfl, fs, k3, o3, g3⟩
                · go_wp2_with fail
                  refine CM.out.mono ?_; rintro e w3 ⟨rfl, fs, k3, o3, g3⟩
                  have K3 := Lib.hid k3
                  have O3 := Lib.hid o3
                  have G3 := Lib.hid (grown_trans G2.out g3)
                  clear k3 o3 g3 CM TW O2 G2
                  go_wp2_with fail
                  go_roundw
                  case rel => exact .inr ⟨rfl, rfl, fs, K3, O3.out, G3.out⟩
                  case measure => simp [intOf]
                · have K3 := Lib.hid (TW.out fs k3.out)
                  have O3 := Lib.hid o3
                  have G3 := Lib.hid g3
                  clear k3 o3 g3 CM TW O2 G2
                  go_wp2_with fail
                  go_roundw
                  case rel => exact ⟨fs, O3.out, G3.out, .inr (.inl ⟨rfl, K3⟩)⟩
                  case measure => simp [intOf]
          · have d1 : decide ((20 : Int) < (n : Int)) = false := decide_eq_false (by omega)
            have d1n : decide (20 < n) = false := decide_eq_false (by omega)
            have FIN := Lib.hid (B2.out.all (by omega))
            clear HS B2
            go_wp2_with fail
            refine bodyPost_end (v := .tuple #[]) (by simp [results, Try.results54, go_sem]) rfl ?_
            exact ⟨rfl, ys, FIN.out, O2.out, G2.out⟩
        · by_cases hlt : 40 < n
          · have d1 : decide ((40 : Int) < (n : Int)) = true := decide_eq_true (by omega)
            have d1n : decide (40 < n) = true := decide_eq_true (by omega)
            have d4 : decide ((80 : Int) ≤ (n : Int)) = false := decide_eq_false (by omega)
            have d4n : decide (80 ≤ n) = false := decide_eq_false (by omega)
            have CM := Lib.hid (HS.out 40 n ys wr B2.out O2.out G2.out (by omega) (by omega))
            have TW := Lib.hid (fun es (k : Srt key ys es 0 n) => B2.out.twice k (by omega) (by omega))
            clear HS B2
            go_wp2_with fail
            go_loopw [7, 8] (fun a b wq => a = .int .i64 0 ∧ b = .int .i64 80 ∧ wq = wr) (fun _ _ _ => 0)
            case atStart => exact ⟨rfl, rfl, rfl⟩
            case round =>
              obtain ⟨rfl, rfl, rfl⟩ := hrel
              go_wp2_with fail
              refine CM.out.mono ?_; rintro e w3 ⟨rfl, fs, k3, o3, g3⟩
              have K3 := Lib.hid (TW.out fs k3)
              have O3 := Lib.hid o3
              have G3 := Lib.hid (grown_trans G2.out g3)
              clear k3 o3 g3 CM TW O2 G2
              go_wp2_with fail
              go_roundw
              case rel => exact ⟨fs, O3.out, G3.out, .inr (.inr ⟨rfl, K3⟩)⟩
              case measure => simp [intOf]
          · have d1 : decide ((40 : Int) < (n : Int)) = false := decide_eq_false (by omega)
            have d1n : decide (40 < n) = false := decide_eq_false (by omega)
            have FIN := Lib.hid (B2.out.all (by omega))
            clear HS B2
            go_wp2_with fail
            refine bodyPost_end (v := .tuple #[]) (by simp [results, Try.results54, go_sem]) rfl ?_
            exact ⟨rfl, ys, FIN.out, O2.out, G2.out⟩
        · have d1 : decide ((80 : Int) < (n : Int)) = false := decide_eq_false (by omega)
          have d1n : decide (80 < n) = false := decide_eq_false (by omega)
          have FIN := Lib.hid (B2.out.all (by omega))
          clear HS B2
          go_wp2_with fail
          refine bodyPost_end (v := .tuple #[]) (by simp [results, Try.results54, go_sem]) rfl ?_
          exact ⟨rfl, ys, FIN.out, O2.out, G2.out⟩
theorem stableCmp_c (base : Nat) (A : Option Addr) (n c g N : Nat) (cb : Array Value) (key : Int → Int) (ds : List Int) (w : World) (eg : ∀ args w, (callFunc g args).run Try.prog w = .ok (.enter g args) w)
    (hO : Own w base 3 1 A n c (ints ds)) (hn : n ≤ 48) (hC : CmpOk g cb key N w (Value.slice A n c).ownBlock) (hN : ∀ i, i < n → 0 ≤ nth ds i ∧ nth ds i < N) (hup : ∀ p q, p < q → q < n → nth ds p < nth ds q) :
    Calls Try.prog 54 #[.slice A n c, .int .i64 n, .func (.func g) #[] cb] w fun e w' => e = .returned (.tuple #[]) ∧ ∃ ds', Srt key ds ds' 0 n ∧ Own w' base 3 1 A n c (ints ds') ∧ w.grownBy w' (Value.slice A n c).ownBlock := by
  by_cases h : n ≤ 19
  · exact stableCmp_small base A n c g N cb key ds w eg hO h hC hN hup
  · obtain ⟨r, rfl, -, -⟩ := hO.form (by omega)
    exact stableCmp_big base r n c g N cb key ds w eg hO (by omega) hC hN hup
theorem stable_c (base : Nat) (A : Option Addr) (n c g N : Nat) (cb : Array Value) (key : Int → Int) (ds : List Int) (w : World) (eg : ∀ args w, (callFunc g args).run Try.prog w = .ok (.enter g args) w)
    (hO : Own w base 3 1 A n c (ints ds)) (hn : n ≤ 48) (hC : CmpOk g cb key N w (Value.slice A n c).ownBlock) (hN : ∀ i, i < n → 0 ≤ nth ds i ∧ nth ds i < N) (hup : ∀ p q, p < q → q < n → nth ds p < nth ds q) :
    Calls Try.prog 44 #[.slice A n c, .func (.func g) #[] cb] w fun e w' => e = .returned (.tuple #[]) ∧ ∃ ds', Srt key ds ds' 0 n ∧ Own w' base 3 1 A n c (ints ds') ∧ w.grownBy w' (Value.slice A n c).ownBlock := by
  have CI := stableCmp_c base A n c g N cb key ds w eg hO hn hC hN hup
  have HCI := Lib.hid CI
  clear CI hO hC hN hup
  go_enter Try.func44, Try.ntmps44
  go_wp2_with fail
  refine HCI.out.mono ?_; rintro e w1 ⟨rfl, ds', hs, ho, hg⟩
  have HS := Lib.hid hs
  have HO := Lib.hid ho
  have HG := Lib.hid hg
  clear hs ho hg HCI
  go_wp2_with fail
  refine bodyPost_end (v := .tuple #[]) (by simp [results, Try.results44, go_sem]) rfl ?_
  exact ⟨rfl, ds', HS.out, HO.out, HG.out⟩
end Go.Proofs.Ytbenbjbfmcdedaa
