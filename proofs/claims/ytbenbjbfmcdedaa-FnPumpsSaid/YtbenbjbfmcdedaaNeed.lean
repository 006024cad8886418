/-
  Plain facts on the pumps that are needed: the strongest first, until the water is lifted. No program in sight.
-/
import Derived.Test.YtbenbjbfmcdedaaStabQ
import Derived.Test.YtbenbjbfmcdedaaElPump
import Derived.Test.YtbenbjbfmcdedaaPumpA
namespace Go.Proofs.Ytbenbjbfmcdedaa
open Go.RowKit

def sumK (f : Nat → Int) : Nat → Int
  | 0 => 0
  | k + 1 => sumK f k + f k
/-- the liters of a pump, below zero: the strongest first -/
def negL (es : List Pump) : List Int := es.map fun e => -e.f0
theorem negL_len (es : List Pump) : (negL es).length = es.length := by simp [negL]
theorem negL_nth (es : List Pump) (i : Nat) (h : i < es.length) : nth (negL es) i = -(Pump.at_ es i).f0 := by simp [negL, nth, Pump.at_, h]
def pumpsB (es : List Pump) (w h : Int) : Bool := decide (es.length ≤ 10 ∧ inB w 0 1000000 = true ∧ inB h 1 48 = true ∧ ∀ i, i < es.length → pumpB (Pump.at_ es i).f0 (Pump.at_ es i).f1 = true)
theorem pumpsB_at {es : List Pump} {w h : Int} (k : pumpsB es w h = true) : es.length ≤ 10 ∧ inB w 0 1000000 = true ∧ inB h 1 48 = true ∧ ∀ i, i < es.length → pumpB (Pump.at_ es i).f0 (Pump.at_ es i).f1 = true := by simpa only [pumpsB, decide_eq_true_eq] using k
/-- the liters of the k-th strongest -/
def lits (es : List Pump) (k : Nat) : Int := (Pump.at_ es (od (negL es) k)).f0
/-- what the m strongest lift in h hours -/
def cum (es : List Pump) (h : Int) (m : Nat) : Int := sumK (fun k => lits es k * h) m
def Need (es : List Pump) (w h : Int) (m : Nat) : Prop := m ≤ es.length ∧ w ≤ cum es h m ∧ ∀ j, j < m → cum es h j < w
theorem Need.unique {es : List Pump} {w h : Int} {m k : Nat} (a : Need es w h m) (b : Need es w h k) : m = k := by
  rcases Nat.lt_trichotomy m k with e | e | e
  · have := b.2.2 m e; have := a.2.1; omega
  · exact e
  · have := a.2.2 k e; have := b.2.1; omega
open Classical in
noncomputable def neededF (es : List Pump) (w h : Int) : List Int := if c : pumpsB es w h = true ∧ ∃ m, Need es w h m then placesI (cheapL (negL es) c.2.choose) else []
theorem neededF_yes {es : List Pump} {w h : Int} {m : Nat} (c : pumpsB es w h = true) (k : Need es w h m) : neededF es w h = placesI (cheapL (negL es) m) := by
  have e : ∃ m, Need es w h m := ⟨m, k⟩
  rw [neededF, dif_pos ⟨c, e⟩, Need.unique e.choose_spec k]
theorem neededF_no {es : List Pump} {w h : Int} (c : ¬ pumpsB es w h = true) : neededF es w h = [] := dif_neg fun k => c k.1
theorem neededF_few {es : List Pump} {w h : Int} (c : ∀ j, j ≤ es.length → cum es h j < w) : neededF es w h = [] := dif_neg fun ⟨_, m, k⟩ => by have := c m k.1; have := k.2.1; omega
theorem neededF_len (es : List Pump) (w h : Int) : (neededF es w h).length ≤ 10 := by
  by_cases c : pumpsB es w h = true ∧ ∃ m, Need es w h m
  · obtain ⟨c1, m, k⟩ := c
    rw [neededF_yes c1 k, placesI_len, cheapL_len (by rw [negL_len]; exact k.1)]
    have := (pumpsB_at c1).1
    have := k.1
    omega
  · rw [neededF, dif_neg c]; simp
theorem lits_bd {es : List Pump} {w h : Int} (c : pumpsB es w h = true) (k : Nat) (hk : k < es.length) : 1 ≤ lits es k ∧ lits es k ≤ 10000 := by
  have h1 := od_lt (zs := negL es) (m := k) (by rw [negL_len]; exact hk)
  rw [negL_len] at h1
  have := pumpB_yes ((pumpsB_at c).2.2.2 _ h1)
  unfold lits; omega
theorem mul_bd {x h : Int} (hx : 1 ≤ x ∧ x ≤ 10000) (hh : 1 ≤ h ∧ h ≤ 48) : 1 ≤ x * h ∧ x * h ≤ 480000 := by
  have h1 : x * h ≤ 10000 * h := Int.mul_le_mul_of_nonneg_right hx.2 (by omega)
  have h2 : 1 * h ≤ x * h := Int.mul_le_mul_of_nonneg_right hx.1 (by omega)
  omega
theorem cum_bd {es : List Pump} {w h : Int} (c : pumpsB es w h = true) : ∀ m, m ≤ es.length → 0 ≤ cum es h m ∧ cum es h m ≤ 480000 * (m : Int) := by
  intro m
  induction m with
  | zero => intro _; simp [cum, sumK]
  | succ m ih =>
    intro hm
    have h1 := ih (by omega)
    have h2 := mul_bd (lits_bd c m (by omega)) (inB_yes (pumpsB_at c).2.2.1)
    have e : cum es h (m + 1) = cum es h m + lits es m * h := rfl
    rw [e]
    push_cast
    omega
theorem cum_succ (es : List Pump) (h : Int) (m : Nat) : cum es h (m + 1) = cum es h m + lits es m * h := rfl
/-- what is lifted by the m strongest, summed in ascending order of their places -/
theorem cum_cheap (es : List Pump) (h : Int) (m : Nat) (hm : m ≤ es.length) : ((cheapL (negL es) m).map fun k => (Pump.at_ es k).f0 * h).sum = cum es h m := by
  rw [sum_perm ((cheapL_perm (negL es) m).map _)]
  induction m with
  | zero => simp [cum, sumK]
  | succ m ih => 
    rw [od_take (by rw [negL_len]; omega), List.map_append, List.sum_append, ih (by omega), cum_succ]
    simp [lits]
theorem sum_take (f : Nat → Int) (l : List Nat) : ∀ k, k ≤ l.length → ((l.take k).map f).sum = sumK (fun i => f (l.getD i 0)) k := by
  intro k
  induction k with
  | zero => intro _; simp [sumK]
  | succ k ih =>
    intro hk
    rw [List.take_succ_eq_append_getElem (by omega), List.map_append, List.sum_append, ih (by omega), sumK]
    simp [show k < l.length by omega]
end Go.Proofs.Ytbenbjbfmcdedaa
