/-
  The contracts of CostFor of the program, and of BestHours and CostFor of the reference.
-/
import Derived.Test.YtbenbjbfmcdedaaPumpA
import Derived.Test.YtbenbjbfmcdedaaPumpC
namespace Go.Proofs.Ytbenbjbfmcdedaa
open Go.RowKit

def sumL (zs : List Int) (k : Nat) : Int := (zs.take k).sum
theorem sumL_zero (zs : List Int) : sumL zs 0 = 0 := by simp [sumL]
theorem sumL_succ {zs : List Int} {k : Nat} (h : k < zs.length) : sumL zs (k + 1) = sumL zs k + nth zs k := by
  rw [sumL, sumL, List.take_succ_eq_append_getElem h, List.sum_append]
  simp [nth, h]
theorem sumL_all (zs : List Int) : sumL zs zs.length = zs.sum := by simp [sumL]
theorem sumL_bd {zs : List Int} (hb : ∀ i, i < zs.length → 0 ≤ nth zs i ∧ nth zs i ≤ 1000) (k : Nat) (hk : k ≤ zs.length) : 0 ≤ sumL zs k ∧ sumL zs k ≤ k * 1000 := by
  induction k with
  | zero => simp [sumL]
  | succ k ih =>
    have h1 := ih (by omega)
    have h2 := hb k (by omega)
    rw [sumL_succ (by omega)]
    omega
theorem sumOf_c (A : Option Addr) (n c : Nat) (zs : List Int) (w : World) (h : Holds w 1 A n c (ints zs)) (hb : ∀ i, i < zs.length → 0 ≤ nth zs i ∧ nth zs i ≤ 1000) (hn : n ≤ 1000) :
    Calls Try.prog 42 #[.slice A n c] w fun e w' => e = .returned (.int .i64 zs.sum) ∧ w = w' := by
  have HB := Lib.hid hb
  have HL := Lib.hid h.intlen
  clear hb
  go_enter Try.func42, Try.ntmps42
  go_wp2
  go_loop [3, 8] (fun v i => ∃ k : Nat, k ≤ n ∧ i = .int .i64 k ∧ v = .int .i64 (sumL zs k)) (fun _ i => n - (intOf i).toNat)
  case atStart => exact ⟨0, Nat.zero_le _, rfl, by rw [sumL_zero]⟩
  case round =>
    obtain ⟨k, hk, rfl, rfl⟩ := hrel
    by_cases hlt : k < n
    · obtain ⟨b, off, rfl, hb, hc⟩ := h.int (by omega)
      have hck := hc k hlt
      have q1 := HB.out k (by rw [HL.out]; exact hlt)
      have q2 := sumL_bd HB.out k (by rw [HL.out]; exact hk)
      have HS := Lib.hid (sumL_succ (zs := zs) (k := k) (by rw [HL.out]; exact hlt))
      clear hc h
      go_wp2
      go_round
      case rel => exact ⟨k + 1, by omega, by go_num, by rw [HS.out]⟩
      case measure => simp [intOf]; omega
    · obtain rfl : k = n := by omega
      have HS := Lib.hid (show sumL zs k = zs.sum from by rw [← sumL_all, HL.out])
      go_wp2
      go_ret
      exact ⟨ret_int HS.out, rfl⟩
theorem copyInts_c (A : Option Addr) (n c : Nat) (zs : List Int) (w : World) (h : Holds w 1 A n c (ints zs)) (hn : n ≤ 1048576) :
    Calls Try.prog 40 #[.slice A n c] w (Fresh 3 1 n (ints zs) w) := by
  have h1 : ∀ u ∈ ints zs, u.oneCell' = true := by
    intro u hu
    obtain ⟨z, _, rfl⟩ := List.mem_map.1 hu
    rfl
  go_enter Try.func40, Try.ntmps40
  go_wp2_with (at_builtin; refine wpList_cat w (Ext.refl _) rfl _ _ _ rfl 3 (.int .i64 0) 1 8 intInfo Try.underlying32 rfl (by omega) none 0 0 [] rfl (Own.nil_ _ _ _ _) _ _ _ _ rfl h h1 (by omega) (by omega) ?_; intro A2 c2 w2 ho2 hx2; simp only [Nat.zero_add, List.nil_append] at ho2)
  go_ret
  exact ⟨A2, c2, rfl, ho2, hx2⟩
theorem Holds.pre {w : World} {A : Option Addr} {n c q : Nat} {zs : List Int} (h : Holds w 1 A n c (ints zs)) (hq : q ≤ n) : Holds w 1 A q c (ints (zs.take q)) := by
  have hl := h.intlen
  refine ⟨by rw [ints_len, List.length_take]; omega, by have := h.2.1; omega, h.2.2.1, fun hp => ?_⟩
  rw [ints_len, List.length_take] at hp
  obtain ⟨b, off, hA, hb, hc⟩ := h.2.2.2 (by rw [ints_len]; omega)
  refine ⟨b, off, hA, hb, fun j u hu => hc j u ?_⟩
  rw [ints, List.map_take, List.getElem?_take] at hu
  split at hu
  · exact hu
  · simp at hu
theorem sortI_bd {u : List Int} {lo hi : Int} (h : ∀ i, i < u.length → lo ≤ nth u i ∧ nth u i ≤ hi) (i : Nat) (hi' : i < u.length) : lo ≤ nth (sortI u) i ∧ nth (sortI u) i ≤ hi := by
  have hl : i < (sortI u).length := by rw [sortI_len]; exact hi'
  have hm : (sortI u)[i] ∈ u := (List.mergeSort_perm u _).subset (List.getElem_mem hl)
  obtain ⟨j, hj, e⟩ := List.getElem_of_mem hm
  have := h j hj
  have e1 : nth (sortI u) i = nth u j := by simp [nth, hl, hj, e]
  rw [e1]
  exact this

theorem hoursF_cases (a b m : Int) : hoursF a b m = -1 ∨ (0 ≤ hoursF a b m ∧ pumpB a b = true) := by
  unfold hoursF
  split
  · rename_i h
    have h1 := pumpB_yes h.1
    have h2 := inB_yes h.2
    exact .inr ⟨Int.ediv_nonneg (by omega) (by omega), h.1⟩
  · exact .inl rfl
/-- the hours can be chosen -/
def costB (a b : Int) (zs : List Int) (m : Int) : Bool := decide (0 ≤ hoursF a b m ∧ zs.length ≤ 48 ∧ hoursF a b m ≤ zs.length ∧ allB zs 0 1000 = true)
theorem costB_yes {a b : Int} {zs : List Int} {m : Int} (h : costB a b zs m = true) : 0 ≤ hoursF a b m ∧ zs.length ≤ 48 ∧ hoursF a b m ≤ zs.length ∧ allB zs 0 1000 = true := by simpa [costB] using h
/-- how many -/
def hoursN (a b m : Int) : Nat := (hoursF a b m).toNat
/-- what CostFor answers -/
def costF (a b : Int) (zs : List Int) (m : Int) : Int := if costB a b zs m = true then sumL (sortI zs) (hoursN a b m) * b else -1
/-- what BestHours answers -/
def bestF (a b : Int) (zs : List Int) (m : Int) : List Int := if costB a b zs m = true then placesI (cheapL zs (hoursN a b m)) else []
theorem costF_no {a b : Int} {zs : List Int} {m : Int} (h : ¬ costB a b zs m = true) : costF a b zs m = -1 := if_neg h
theorem costF_yes {a b : Int} {zs : List Int} {m : Int} (h : costB a b zs m = true) : costF a b zs m = sumL (sortI zs) (hoursN a b m) * b := if_pos h
theorem cost_room {a b : Int} {zs : List Int} {m : Int} (h : costB a b zs m = true) (k : Nat) (hk : k ≤ zs.length) : 0 ≤ sumL (sortI zs) k ∧ sumL (sortI zs) k ≤ 48000 ∧ 0 ≤ sumL (sortI zs) k * b ∧ sumL (sortI zs) k * b ≤ 480000000 := by
  obtain ⟨h1, h2, h3, h4⟩ := costB_yes h
  have hb := sumL_bd (zs := sortI zs) (fun i hi => sortI_bd (lo := 0) (hi := 1000) (fun j hj => allB_at h4 hj) i (by rwa [sortI_len] at hi)) k (by rw [sortI_len]; exact hk)
  have hp : pumpB a b = true := by
    rcases hoursF_cases a b m with e | e
    · omega
    · exact e.2
  have hp := pumpB_yes hp
  have hs : sumL (sortI zs) k ≤ 48000 := by omega
  refine ⟨hb.1, hs, Int.mul_nonneg hb.1 (by omega), ?_⟩
  have := Int.mul_le_mul hs hp.2.2.2 (by omega) (by omega)
  omega
set_option maxHeartbeats 3200000 in
theorem cost_c (A : Option Addr) (n c : Nat) (zs : List Int) (a b m : Int) (w : World) (h : Holds w 1 A n c (ints zs)) :
    Calls Try.prog 19 #[.agg #[.int .i64 a, .int .i64 b], .slice A n c, .int .i64 m] w (Ans (.int .i64 (costF a b zs m)) w) := by
  have HL := Lib.hid h.intlen
  obtain ⟨f, hfe⟩ : ∃ f, f = hoursF a b m := ⟨_, rfl⟩
  have HF := Lib.hid hfe
  have hfr : f = -1 ∨ 0 ≤ f := by rw [hfe]; have := hoursF_cases a b m; omega
  clear hfe
  by_cases hok : costB a b zs m = true
  · obtain ⟨g1, g2, g3, g4⟩ := costB_yes hok
    rw [← HF.out] at g1 g3
    rw [HL.out] at g2 g3
    obtain ⟨q, rfl⟩ : ∃ q : Nat, f = (q : Int) := ⟨f.toNat, by omega⟩
    have hqe : hoursN a b m = q := by rw [hoursN, ← HF.out]; omega
    have hqn : q ≤ n := by omega
    have H := Lib.hid (show costF a b zs m = sumL (sortI zs) q * b from by rw [costF_yes hok, hqe])
    have ⟨r1, r2, r3, r4⟩ := cost_room hok q (by rw [HL.out]; exact hqn)
    have HBD := Lib.hid (show ∀ i, i < ((sortI zs).take q).length → 0 ≤ nth ((sortI zs).take q) i ∧ nth ((sortI zs).take q) i ≤ 1000 from fun i hi => by
      rw [List.length_take] at hi
      have e : nth ((sortI zs).take q) i = nth (sortI zs) i := by simp [nth, List.getElem?_take, show i < q by omega]
      rw [e]
      exact sortI_bd (fun j hj => allB_at g4 hj) i (by rw [← sortI_len zs]; omega))
    have hsum : ((sortI zs).take q).sum = sumL (sortI zs) q := rfl
    obtain ⟨S, hS⟩ : ∃ S, S = sumL (sortI zs) q := ⟨_, rfl⟩
    rw [← hS] at hsum r1 r2 r3 r4
    have HS := Lib.hid hS
    have HSUM := Lib.hid hsum
    have G4 := Lib.hid g4
    clear hok hS hsum hqe hfr g1 g4
    go_enter Try.func19, Try.ntmps19
    go_wp2_with (first | ((go_at_call 14; refine (hours_c _ _ _ _).mono ?_; rintro e w1 ⟨rfl, hx⟩; have hl := hx.len; (try simp only [World.size_alloc, World.size_setCell, World.size_drew, World.heap_drewN] at hl); obtain ⟨⟨hc, hf⟩, hb1, hb2, hb3, hb4, hb5, hb6, hb7⟩ := hx.blk w.heap.size (by (try simp only [World.size_alloc, World.size_setCell, World.size_drew, World.heap_drewN]); omega)); rw [← HF.out]; have x1 : Ext w w1 := (by (repeat (first | exact Ext.refl _ | assumption | refine Ext.alloc ?_ _ | refine Ext.drew ?_ | refine Ext.drewN ?_ _ | refine Ext.setCell ?_ (by (try simp only [World.size_alloc, World.size_setCell, World.size_drew, World.heap_drewN]); omega) _ | refine Ext.step (by assumption) ?_)))) | (go_at_call 39; refine (allWithin_c _ _ _ zs _ _ _ (h.ext x1)).mono ?_; rintro e w' ⟨rfl, rfl⟩; rw [G4.out]) | (go_at_call 40; refine (copyInts_c _ _ _ zs _ (h.ext x1) (by omega)).mono ?_; rintro e w2 ⟨A2, c2, rfl, o2, x2⟩))
    refine (sortAll_c _ _ _ _ zs _ o2 (by omega)).mono ?_; rintro e w3 ⟨rfl, o3, g3'⟩
    have x3 : Ext w1 w3 := Own.ext_grown x2 o2 (Nat.le_refl _) g3'
    have hc3 : w3.cell? ⟨w.heap.size, 1, none⟩ = some (.int .i64 b) := x3.got ((hc 1).trans (by simp [go_sem]))
    have pc3 := After.got (w := w3) hc3
    have HC := Lib.hid (show ∀ w', Holds w' 1 A2 q c2 (ints ((sortI zs).take q)) → Calls Try.prog 42 #[.slice A2 q c2] w' fun e w'' => e = .returned (.int .i64 S) ∧ w' = w'' from fun w' h' => by rw [← HSUM.out]; exact sumOf_c _ _ _ _ _ h' HBD.out (by omega))
    have hcap := o3.cap
    have ho := Holds.pre o3.holds hqn
    clear o2 o3 g3'
    go_wp2_with fail
    (refine wp_region_after w3 (Ext.refl _) (by kernel_rfl) (by kernel_rfl) ?_; (repeat (go_big_quiet_step ((go_at_call 42; exact after_same (HC.out _ (ho.ext (After.ext _))))))); refine wpQuiet_nil ?_; intro _ hw'; obtain ⟨y, hw''⟩ := hw'; subst hw'')
    go_wp2
    go_ret
    exact ⟨ret_int (by rw [H.out, HS.out]), (x1.trans x3).trans y.ext⟩
  · have H := Lib.hid (costF_no hok)
    by_cases h1 : 0 ≤ f
    · by_cases h2 : n ≤ 48
      · cases h3 : allB zs 0 1000
        · have H3 := Lib.hid h3
          clear hok h3
          go_enter Try.func19, Try.ntmps19
          go_wp2_with (first | ((go_at_call 14; refine (hours_c _ _ _ _).mono ?_; rintro e w1 ⟨rfl, hx⟩; have hl := hx.len; (try simp only [World.size_alloc, World.size_setCell, World.size_drew, World.heap_drewN] at hl); obtain ⟨⟨hc, hf⟩, hb1, hb2, hb3, hb4, hb5, hb6, hb7⟩ := hx.blk w.heap.size (by (try simp only [World.size_alloc, World.size_setCell, World.size_drew, World.heap_drewN]); omega)); rw [← HF.out]; have x1 : Ext w w1 := (by (repeat (first | exact Ext.refl _ | assumption | refine Ext.alloc ?_ _ | refine Ext.drew ?_ | refine Ext.drewN ?_ _ | refine Ext.setCell ?_ (by (try simp only [World.size_alloc, World.size_setCell, World.size_drew, World.heap_drewN]); omega) _ | refine Ext.step (by assumption) ?_)))) | (go_at_call 39; refine (allWithin_c _ _ _ zs _ _ _ (h.ext x1)).mono ?_; rintro e w' ⟨rfl, rfl⟩; rw [H3.out]))
          go_ret
          exact ⟨ret_int H.out.symm, x1⟩
        · have H3 := Lib.hid h3
          have h4 : ¬ f ≤ (n : Int) := fun h4 => hok (by rw [costB]; exact decide_eq_true ⟨by rw [← HF.out]; exact h1, by rw [HL.out]; exact h2, by rw [← HF.out, HL.out]; exact h4, h3⟩)
          clear hok h3
          go_enter Try.func19, Try.ntmps19
          go_wp2_with (first | ((go_at_call 14; refine (hours_c _ _ _ _).mono ?_; rintro e w1 ⟨rfl, hx⟩; have hl := hx.len; (try simp only [World.size_alloc, World.size_setCell, World.size_drew, World.heap_drewN] at hl); obtain ⟨⟨hc, hf⟩, hb1, hb2, hb3, hb4, hb5, hb6, hb7⟩ := hx.blk w.heap.size (by (try simp only [World.size_alloc, World.size_setCell, World.size_drew, World.heap_drewN]); omega)); rw [← HF.out]; have x1 : Ext w w1 := (by (repeat (first | exact Ext.refl _ | assumption | refine Ext.alloc ?_ _ | refine Ext.drew ?_ | refine Ext.drewN ?_ _ | refine Ext.setCell ?_ (by (try simp only [World.size_alloc, World.size_setCell, World.size_drew, World.heap_drewN]); omega) _ | refine Ext.step (by assumption) ?_)))) | (go_at_call 39; refine (allWithin_c _ _ _ zs _ _ _ (h.ext x1)).mono ?_; rintro e w' ⟨rfl, rfl⟩; rw [H3.out]))
          go_ret
          exact ⟨ret_int H.out.symm, x1⟩
      · clear hok
        go_enter Try.func19, Try.ntmps19
        go_wp2_with ((go_at_call 14; refine (hours_c _ _ _ _).mono ?_; rintro e w1 ⟨rfl, hx⟩; have hl := hx.len; (try simp only [World.size_alloc, World.size_setCell, World.size_drew, World.heap_drewN] at hl); obtain ⟨⟨hc, hf⟩, hb1, hb2, hb3, hb4, hb5, hb6, hb7⟩ := hx.blk w.heap.size (by (try simp only [World.size_alloc, World.size_setCell, World.size_drew, World.heap_drewN]); omega)); rw [← HF.out]; have x1 : Ext w w1 := (by (repeat (first | exact Ext.refl _ | assumption | refine Ext.alloc ?_ _ | refine Ext.drew ?_ | refine Ext.drewN ?_ _ | refine Ext.setCell ?_ (by (try simp only [World.size_alloc, World.size_setCell, World.size_drew, World.heap_drewN]); omega) _ | refine Ext.step (by assumption) ?_))))
        go_ret
        exact ⟨ret_int H.out.symm, x1⟩
    · clear hok
      go_enter Try.func19, Try.ntmps19
      go_wp2_with ((go_at_call 14; refine (hours_c _ _ _ _).mono ?_; rintro e w1 ⟨rfl, hx⟩; have hl := hx.len; (try simp only [World.size_alloc, World.size_setCell, World.size_drew, World.heap_drewN] at hl); obtain ⟨⟨hc, hf⟩, hb1, hb2, hb3, hb4, hb5, hb6, hb7⟩ := hx.blk w.heap.size (by (try simp only [World.size_alloc, World.size_setCell, World.size_drew, World.heap_drewN]); omega)); rw [← HF.out]; have x1 : Ext w w1 := (by (repeat (first | exact Ext.refl _ | assumption | refine Ext.alloc ?_ _ | refine Ext.drew ?_ | refine Ext.drewN ?_ _ | refine Ext.setCell ?_ (by (try simp only [World.size_alloc, World.size_setCell, World.size_drew, World.heap_drewN]); omega) _ | refine Ext.step (by assumption) ?_))))
      go_ret
      exact ⟨ret_int H.out.symm, x1⟩
end Go.Proofs.Ytbenbjbfmcdedaa
