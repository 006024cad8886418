/-
  Plain facts on drawn debts, for the law FnTrades: balances are kept by netting and by settling, and how many debts there are. No program in sight. Conditions: those of drawn debts.
-/
import Derived.Test.YtcjlipcoefcmgaaTradeD
import Derived.Test.YtcjlipcoefcmgaaTradeB
import Derived.Test.YtcjlipcoefcmgaaTradeC
namespace Go.Proofs.Ytcjlipcoefcmgaa
open Go.RowKit

/-- drawn debts -/
def DrawnD (es : List Debt) : Prop := es.length ≤ 8 ∧ ∀ i, i < es.length → (Debt.at_ es i).f0 ≠ (Debt.at_ es i).f1 ∧ (1 ≤ (Debt.at_ es i).f0 ∧ (Debt.at_ es i).f0 ≤ 5) ∧ (1 ≤ (Debt.at_ es i).f1 ∧ (Debt.at_ es i).f1 ≤ 5) ∧ 1 ≤ (Debt.at_ es i).f2 ∧ (Debt.at_ es i).f2 ≤ 60
theorem drawnD_ok {es : List Debt} (h : DrawnD es) : debB es = true :=
  debB_yes ⟨by have := h.1; omega, fun i hi => by have := h.2 i hi; exact ⟨this.1, inB_mk (by omega), inB_mk (by omega), inB_mk (by omega)⟩⟩
/-- F summed over a list -/
def M (F : Debt → Int) : List Debt → Int
  | [] => 0
  | e :: l => F e + M F l
theorem M_append (F : Debt → Int) (a b : List Debt) : M F (a ++ b) = M F a + M F b := by
  induction a with
  | nil => simp [M]
  | cons e l ih => rw [List.cons_append, M, M, ih]; omega
theorem M_one (F : Debt → Int) (e : Debt) : M F [e] = F e := by simp [M]
theorem M_take (F : Debt → Int) (es : List Debt) : ∀ k, k ≤ es.length → sumG (fun i => F (Debt.at_ es i)) k = M F (es.take k) := by
  intro k
  induction k with
  | zero => intro _; simp [sumG, M]
  | succ k ih =>
    intro hk
    have : Debt.at_ es k = es[k] := by simp [Debt.at_, show k < es.length by omega]
    rw [sumG, ih (by omega), List.take_succ_eq_append_getElem (by omega), M_append, M_one, this]
theorem M_all (F : Debt → Int) (es : List Debt) : sumG (fun i => F (Debt.at_ es i)) es.length = M F es := by
  rw [M_take F es _ (Nat.le_refl _), List.take_length]
theorem owes_M {es : List Debt} (h : debB es = true) (a b : Int) : owesF es a b = M (owesAt a b) es := by rw [owesF, if_pos h]; exact M_all _ _
theorem bal_M {es : List Debt} (h : debB es = true) (a : Int) : balF es a = M (balAt a) es := by rw [balF, if_pos h]; exact M_all _ _
/-- every debt of the list is between two of the 20, and not of the same -/
def Fine (l : List Debt) : Prop := ∀ e ∈ l, e.f0 ≠ e.f1 ∧ (1 ≤ e.f0 ∧ e.f0 ≤ 20) ∧ (1 ≤ e.f1 ∧ e.f1 ≤ 20)
theorem mem_at {es : List Debt} {e : Debt} (h : e ∈ es) : ∃ i, i < es.length ∧ Debt.at_ es i = e := by
  obtain ⟨i, hi, he⟩ := List.getElem_of_mem h
  exact ⟨i, hi, by simp [Debt.at_, hi, he]⟩
theorem drawnD_fine {es : List Debt} (h : DrawnD es) : Fine es := fun e he => by
  obtain ⟨i, hi, rfl⟩ := mem_at he
  have := h.2 i hi
  exact ⟨this.1, by omega, by omega⟩
/-- summed over the pairs a < b of 1 .. 20 -/
def S2 (f : Int → Int → Int) : Int := sumG (fun (a : Nat) => sumG (fun (j : Nat) => f ((a : Int) + 1) ((a : Int) + 2 + (j : Int))) (19 - a)) 20
theorem S2_congr {f g : Int → Int → Int} (h : ∀ a b, 1 ≤ a → a < b → b ≤ 20 → f a b = g a b) : S2 f = S2 g :=
  sumG_congr fun a ha => sumG_congr fun j hj => h _ _ (by omega) (by omega) (by omega)
theorem S2_add (f g : Int → Int → Int) : S2 (fun a b => f a b + g a b) = S2 f + S2 g := by
  unfold S2
  rw [← sumG_add]
  exact sumG_congr fun a _ => sumG_add _ _ _
theorem S2_le {f g : Int → Int → Int} (h : ∀ a b, 1 ≤ a → a < b → b ≤ 20 → f a b ≤ g a b) : S2 f ≤ S2 g :=
  sumG_le fun a ha => sumG_le fun j hj => h _ _ (by omega) (by omega) (by omega)
theorem S2_zero : S2 (fun _ _ => 0) = 0 := by
  unfold S2
  rw [sumG_congr (g := fun _ => 0) fun a _ => sumG_zero _, sumG_zero]
theorem sumG_single {f : Nat → Int} {n k : Nat} (hk : k < n) (h : ∀ i, i < n → i ≠ k → f i = 0) : sumG f n = f k := by
  induction n with
  | zero => omega
  | succ n ih =>
    rw [sumG]
    by_cases e : k = n
    · subst e
      rw [sumG_congr (g := fun _ => 0) fun i hi => h i (by omega) (by omega), sumG_zero]; omega
    · rw [ih (by omega) fun i hi => h i (by omega), h n (by omega) (fun c => e c.symm)]; omega
theorem S2_single {f : Int → Int → Int} (p q : Int) (hp : 1 ≤ p ∧ p < q ∧ q ≤ 20) (h : ∀ a b, 1 ≤ a → a < b → b ≤ 20 → ¬ (a = p ∧ b = q) → f a b = 0) : S2 f = f p q := by
  unfold S2
  obtain ⟨a, ha⟩ : ∃ a : Nat, p = (a : Int) + 1 := ⟨(p - 1).toNat, by omega⟩
  obtain ⟨j, hj⟩ : ∃ j : Nat, q = (a : Int) + 2 + j := ⟨(q - p - 1).toNat, by omega⟩
  rw [sumG_single (k := a) (by omega) fun i hi hne => ?_, sumG_single (k := j) (by omega) fun i hi hne => ?_, ha, hj]
  · exact h _ _ (by omega) (by omega) (by omega) fun c => hne (by omega)
  · rw [sumG_congr (g := fun _ => 0) fun m hm => h _ _ (by omega) (by omega) (by omega) fun c => hne (by omega), sumG_zero]
theorem M_row (F : Debt → Int) (es : List Debt) (a : Int) : ∀ j, M F (netRow es a j) = sumG (fun (i : Nat) => M F (netItem es a (a + 1 + i))) j := by
  intro j
  induction j with
  | zero => simp [netRow, M, sumG]
  | succ j ih => rw [netRow, M_append, ih, sumG]
theorem M_nets (F : Debt → Int) (es : List Debt) : ∀ k, M F (netAll es k) = sumG (fun (a : Nat) => sumG (fun (j : Nat) => M F (netItem es ((a : Int) + 1) ((a : Int) + 2 + (j : Int)))) (19 - a)) k := by
  intro k
  induction k with
  | zero => simp [netAll, M, sumG]
  | succ k ih =>
    rw [netAll, M_append, ih, sumG, M_row]
    refine congrArg _ (sumG_congr fun j _ => by rw [show (k : Int) + 1 + 1 + (j : Int) = (k : Int) + 2 + j by omega])
theorem M_net (F : Debt → Int) (es : List Debt) : M F (netAll es 20) = S2 fun a b => M F (netItem es a b) := M_nets F es 20
/-- what a debt of v from a to b adds to x's balance -/
def sg (x a b v : Int) : Int := (if b = x then v else 0) - (if a = x then v else 0)
theorem sg_add (x a b v u : Int) : sg x a b (v + u) = sg x a b v + sg x a b u := by unfold sg; split <;> split <;> omega
theorem sg_zero (x a b : Int) : sg x a b 0 = 0 := by unfold sg; split <;> split <;> rfl
theorem bal_sg (x : Int) (e : Debt) : balAt x e = sg x e.f0 e.f1 e.f2 := by
  unfold balAt sg
  by_cases h1 : e.f1 = x <;> by_cases h2 : e.f0 = x <;> simp [h1, h2]
theorem item_bal (es : List Debt) (x a b : Int) : M (balAt x) (netItem es a b) = sg x a b (owesF es a b) := by
  unfold netItem
  split
  · rw [M_one, bal_sg]
  · split
    · rw [M_one, bal_sg]
      unfold sg
      simp only
      split <;> split <;> omega
    · rw [show owesF es a b = 0 by omega, sg_zero]; rfl
theorem one_bal (x : Int) {e : Debt} (h : e.f0 ≠ e.f1 ∧ (1 ≤ e.f0 ∧ e.f0 ≤ 20) ∧ (1 ≤ e.f1 ∧ e.f1 ≤ 20)) : S2 (fun a b => sg x a b (owesAt a b e)) = balAt x e := by
  by_cases hlt : e.f0 < e.f1
  · rw [S2_single e.f0 e.f1 (by omega) fun a b h1 h2 h3 h4 => ?_, bal_sg]
    · congr 1
      unfold owesAt
      rw [if_pos (by simp), if_neg (by simp; omega)]; omega
    · rw [show owesAt a b e = 0 from ?_, sg_zero]
      unfold owesAt
      rw [if_neg (by simp; omega), if_neg (by simp; omega)]; rfl
  · rw [S2_single e.f1 e.f0 (by omega) fun a b h1 h2 h3 h4 => ?_, bal_sg]
    · have : owesAt e.f1 e.f0 e = -e.f2 := by
        unfold owesAt
        rw [if_neg (by simp; omega), if_pos (by simp)]; omega
      rw [this]
      unfold sg
      split <;> split <;> omega
    · rw [show owesAt a b e = 0 from ?_, sg_zero]
      unfold owesAt
      rw [if_neg (by simp; omega), if_neg (by simp; omega)]; rfl
theorem nets_bal (x : Int) : ∀ l : List Debt, Fine l → S2 (fun a b => sg x a b (M (owesAt a b) l)) = M (balAt x) l := by
  intro l
  induction l with
  | nil => intro _; exact (S2_congr (g := fun _ _ => 0) fun a b _ _ _ => sg_zero x a b).trans S2_zero
  | cons e l ih =>
    intro h
    have h1 : S2 (fun a b => sg x a b (M (owesAt a b) (e :: l))) = S2 (fun a b => sg x a b (owesAt a b e) + sg x a b (M (owesAt a b) l)) := S2_congr fun a b _ _ _ => by rw [M, sg_add]
    rw [h1, S2_add, one_bal x (h e (by simp)), ih fun d hd => h d (by simp [hd]), M]
theorem net_bal {es : List Debt} (h : DrawnD es) (x : Int) : M (balAt x) (netAll es 20) = M (balAt x) es := by
  rw [M_net, S2_congr (g := fun a b => sg x a b (M (owesAt a b) es)) fun a b _ _ _ => by rw [item_bal, owes_M (drawnD_ok h)], nets_bal x es (drawnD_fine h)]
/-- is the debt between a and b? -/
def pairAt (a b : Int) (e : Debt) : Int := if (e.f0 = a ∧ e.f1 = b) ∨ (e.f0 = b ∧ e.f1 = a) then 1 else 0
theorem M_nonneg {F : Debt → Int} (h : ∀ e, 0 ≤ F e) : ∀ l, 0 ≤ M F l := by
  intro l
  induction l with
  | nil => simp [M]
  | cons e l ih => have := h e; rw [M]; omega
theorem pair_nonneg (a b : Int) (e : Debt) : 0 ≤ pairAt a b e := by unfold pairAt; split <;> omega
theorem no_pair (a b : Int) : ∀ l : List Debt, M (pairAt a b) l = 0 → M (owesAt a b) l = 0 := by
  intro l
  induction l with
  | nil => intro _; rfl
  | cons e l ih =>
    intro h
    rw [M] at h
    have h1 := pair_nonneg a b e
    have h2 := M_nonneg (pair_nonneg a b) l
    rw [M, ih (by omega)]
    have h3 : pairAt a b e = 0 := by omega
    unfold pairAt at h3
    split at h3
    · cases h3
    · rename_i hn
      unfold owesAt
      rw [if_neg (by simp; omega), if_neg (by simp; omega)]; rfl
theorem one_pair {e : Debt} (h : e.f0 ≠ e.f1 ∧ (1 ≤ e.f0 ∧ e.f0 ≤ 20) ∧ (1 ≤ e.f1 ∧ e.f1 ≤ 20)) : S2 (fun a b => pairAt a b e) = 1 := by
  by_cases hlt : e.f0 < e.f1
  · rw [S2_single e.f0 e.f1 (by omega) fun a b h1 h2 h3 h4 => ?_]
    · unfold pairAt; rw [if_pos (.inl ⟨rfl, rfl⟩)]
    · unfold pairAt; rw [if_neg (by omega)]
  · rw [S2_single e.f1 e.f0 (by omega) fun a b h1 h2 h3 h4 => ?_]
    · unfold pairAt; rw [if_pos (.inr ⟨rfl, rfl⟩)]
    · unfold pairAt; rw [if_neg (by omega)]
theorem pairs_len : ∀ l : List Debt, Fine l → S2 (fun a b => M (pairAt a b) l) = l.length := by
  intro l
  induction l with
  | nil => intro _; exact S2_zero
  | cons e l ih =>
    intro h
    have h1 : S2 (fun a b => M (pairAt a b) (e :: l)) = S2 (fun a b => pairAt a b e + M (pairAt a b) l) := S2_congr fun a b _ _ _ => rfl
    rw [h1, S2_add, one_pair (h e (by simp)), ih fun d hd => h d (by simp [hd]), List.length_cons]
    omega
theorem M_len : ∀ l : List Debt, M (fun _ => 1) l = l.length := by
  intro l
  induction l with
  | nil => rfl
  | cons e l ih => rw [M, ih, List.length_cons]; omega
theorem net_len {es : List Debt} (h : DrawnD es) : (netAll es 20).length ≤ es.length := by
  have h1 : M (fun _ => 1) (netAll es 20) ≤ S2 (fun a b => M (pairAt a b) es) := by
    rw [M_net]
    refine S2_le fun a b _ _ _ => ?_
    have h2 := M_nonneg (pair_nonneg a b) es
    by_cases h0 : M (pairAt a b) es = 0
    · have h3 := no_pair a b es h0
      rw [← owes_M (drawnD_ok h)] at h3
      rw [netItem_zero h3, h0]; exact Int.le_refl _
    · have h3 : M (fun _ => 1) (netItem es a b) ≤ 1 := by
        rw [M_len]
        have := netItem_len es a b
        omega
      omega
  rw [M_len, pairs_len es (drawnD_fine h)] at h1
  omega
theorem M_bd {F : Debt → Int} {b : Int} (hb : 0 ≤ b) : ∀ l : List Debt, (∀ e ∈ l, -b ≤ F e ∧ F e ≤ b) → -(l.length * b) ≤ M F l ∧ M F l ≤ l.length * b := by
  intro l
  induction l with
  | nil => intro _; simp [M]
  | cons e l ih =>
    intro h
    have h1 := h e (by simp)
    have h2 := ih fun d hd => h d (by simp [hd])
    have : (((e :: l).length : Nat) : Int) * b = l.length * b + b := by rw [List.length_cons]; push_cast; rw [Int.add_mul, Int.one_mul]
    rw [M]
    omega
theorem small_sum {es : List Debt} (h : DrawnD es) {F : Debt → Int} (hF : ∀ e ∈ es, -60 ≤ F e ∧ F e ≤ 60) : -480 ≤ M F es ∧ M F es ≤ 480 := by
  have h1 := M_bd (b := 60) (by omega) es hF
  have h2 := h.1
  have : (es.length : Int) * 60 ≤ 8 * 60 := Int.mul_le_mul_of_nonneg_right (by omega) (by omega)
  omega
theorem lit_of {es : List Debt} (h : DrawnD es) {e : Debt} (he : e ∈ es) : 1 ≤ e.f2 ∧ e.f2 ≤ 60 := by
  obtain ⟨i, hi, rfl⟩ := mem_at he
  exact (h.2 i hi).2.2.2
theorem owes_small {es : List Debt} (h : DrawnD es) (a b : Int) : -480 ≤ owesF es a b ∧ owesF es a b ≤ 480 := by
  rw [owes_M (drawnD_ok h)]
  refine small_sum h fun e he => ?_
  have := lit_of h he
  unfold owesAt
  split <;> split <;> omega
theorem bal_small {es : List Debt} (h : DrawnD es) (a : Int) : -480 ≤ balF es a ∧ balF es a ≤ 480 := by
  rw [bal_M (drawnD_ok h)]
  refine small_sum h fun e he => ?_
  have := lit_of h he
  unfold balAt
  split <;> split <;> omega
theorem net_is {es : List Debt} (h : DrawnD es) : nettedF es = netAll es 20 := nettedF_yes ⟨drawnD_ok h, fun a b _ _ _ => by have := owes_small h a b; unfold netGood; omega⟩
/-- the pair of a debt, as one number -/
def key (d : Debt) : Int := 100 * min d.f0 d.f1 + max d.f0 d.f1
theorem item_of {es : List Debt} {a b : Int} {d : Debt} (h : d ∈ netItem es a b) (hab : a < b) : key d = 100 * a + b ∧ owesF es a b ≠ 0 ∧ (d = ⟨a, b, owesF es a b⟩ ∧ 0 < owesF es a b ∨ d = ⟨b, a, -(owesF es a b)⟩ ∧ owesF es a b < 0) := by
  unfold netItem at h
  split at h
  · rename_i hp
    simp only [List.mem_singleton] at h
    subst h
    refine ⟨?_, by omega, .inl ⟨rfl, hp⟩⟩
    unfold key; simp only; omega
  · split at h
    · rename_i hn
      simp only [List.mem_singleton] at h
      subst h
      refine ⟨?_, by omega, .inr ⟨rfl, hn⟩⟩
      unfold key; simp only; omega
    · cases h
theorem item_pair (es : List Debt) (a b : Int) : (netItem es a b).Pairwise fun d e => key d < key e := by
  unfold netItem
  split
  · simp
  · split <;> simp
theorem row_keys (es : List Debt) (a : Int) (ha : 1 ≤ a) : ∀ j : Nat, a + j ≤ 20 → (netRow es a j).Pairwise (fun d e => key d < key e) ∧ ∀ d ∈ netRow es a j, ∃ b, a < b ∧ b ≤ a + j ∧ d ∈ netItem es a b := by
  intro j
  induction j with
  | zero => intro _; simp [netRow]
  | succ j ih =>
    intro hj
    obtain ⟨h1, h2⟩ := ih (by omega)
    rw [netRow]
    refine ⟨List.pairwise_append.2 ⟨h1, item_pair es _ _, fun d hd e he => ?_⟩, fun d hd => ?_⟩
    · obtain ⟨b, hb1, hb2, hb3⟩ := h2 d hd
      have := (item_of hb3 hb1).1
      have := (item_of he (by omega)).1
      omega
    · rcases List.mem_append.1 hd with hd | hd
      · obtain ⟨b, hb1, hb2, hb3⟩ := h2 d hd
        exact ⟨b, hb1, by omega, hb3⟩
      · exact ⟨_, by omega, by omega, hd⟩
theorem all_keys (es : List Debt) : ∀ k : Nat, k ≤ 20 → (netAll es k).Pairwise (fun d e => key d < key e) ∧ ∀ d ∈ netAll es k, ∃ a b : Int, 1 ≤ a ∧ a ≤ k ∧ a < b ∧ b ≤ 20 ∧ d ∈ netItem es a b := by
  intro k
  induction k with
  | zero => intro _; simp [netAll]
  | succ k ih =>
    intro hk
    obtain ⟨h1, h2⟩ := ih (by omega)
    obtain ⟨h3, h4⟩ := row_keys es ((k : Int) + 1) (by omega) (19 - k) (by omega)
    rw [netAll]
    refine ⟨List.pairwise_append.2 ⟨h1, h3, fun d hd e he => ?_⟩, fun d hd => ?_⟩
    · obtain ⟨a, b, ha1, ha2, hab, hb, hm⟩ := h2 d hd
      obtain ⟨b', hb1, hb2, hm'⟩ := h4 e he
      have := (item_of hm hab).1
      have := (item_of hm' hb1).1
      omega
    · rcases List.mem_append.1 hd with hd | hd
      · obtain ⟨a, b, ha1, ha2, hab, hb, hm⟩ := h2 d hd
        exact ⟨a, b, ha1, by omega, hab, hb, hm⟩
      · obtain ⟨b', hb1, hb2, hm'⟩ := h4 d hd
        exact ⟨_, b', by omega, by omega, hb1, by omega, hm'⟩
theorem at_mem {es : List Debt} {i : Nat} (h : i < es.length) : Debt.at_ es i ∈ es := by
  have : Debt.at_ es i = es[i] := by simp [Debt.at_, h]
  rw [this]; exact List.getElem_mem h
/-- no pair stands twice in what was netted -/
theorem net_apart (es : List Debt) {i k : Nat} (hik : i < k) (hk : k < (netAll es 20).length) :
    ¬ ((Debt.at_ (netAll es 20) i).f0 = (Debt.at_ (netAll es 20) k).f0 ∧ (Debt.at_ (netAll es 20) i).f1 = (Debt.at_ (netAll es 20) k).f1) ∧
    ¬ ((Debt.at_ (netAll es 20) i).f0 = (Debt.at_ (netAll es 20) k).f1 ∧ (Debt.at_ (netAll es 20) i).f1 = (Debt.at_ (netAll es 20) k).f0) := by
  have h := List.pairwise_iff_getElem.1 (all_keys es 20 (Nat.le_refl _)).1 i k (by omega) hk hik
  have e1 : Debt.at_ (netAll es 20) i = (netAll es 20)[i]'(by omega) := by simp [Debt.at_, show i < (netAll es 20).length by omega]
  have e2 : Debt.at_ (netAll es 20) k = (netAll es 20)[k] := by simp [Debt.at_, hk]
  rw [e1, e2]
  unfold key at h
  omega
theorem owes_neg {es : List Debt} (h : DrawnD es) (a b : Int) : owesF es b a = -(owesF es a b) := by
  have h0 := drawnD_ok h
  rw [owes_M h0, owes_M h0]
  clear h h0
  induction es with
  | nil => rfl
  | cons e l ih =>
    rw [M, M, ih]
    have : owesAt b a e = -(owesAt a b e) := by unfold owesAt; omega
    omega
/-- what one netted debt says -/
theorem net_owes {es : List Debt} (h : DrawnD es) {k : Nat} (hk : k < (netAll es 20).length) :
    owesF es (Debt.at_ (netAll es 20) k).f0 (Debt.at_ (netAll es 20) k).f1 = (Debt.at_ (netAll es 20) k).f2 ∧ owesF es (Debt.at_ (netAll es 20) k).f1 (Debt.at_ (netAll es 20) k).f0 = -(Debt.at_ (netAll es 20) k).f2 ∧ debAt (Debt.at_ (netAll es 20) k) ∧
      1 ≤ (Debt.at_ (netAll es 20) k).f2 ∧ (Debt.at_ (netAll es 20) k).f2 ≤ 480 := by
  obtain ⟨a, b, ha1, ha2, hab, hb, hm⟩ := (all_keys es 20 (Nat.le_refl _)).2 _ (at_mem hk)
  have hs := owes_small h a b
  have hn := owes_neg h a b
  rcases (item_of hm hab).2.2 with ⟨e, hp⟩ | ⟨e, hp⟩
  · rw [e]
    exact ⟨rfl, hn, ⟨by simp only; omega, inB_mk (by simp only; omega), inB_mk (by simp only; omega), inB_mk (by simp only; omega)⟩, by simp only; omega, by simp only; omega⟩
  · rw [e]
    exact ⟨hn, by simp only; omega, ⟨by simp only; omega, inB_mk (by simp only; omega), inB_mk (by simp only; omega), inB_mk (by simp only; omega)⟩, by simp only; omega, by simp only; omega⟩
theorem net_ok {es : List Debt} (h : DrawnD es) : debB (nettedF es) = true := by
  rw [net_is h]
  exact debB_yes ⟨by have := net_len h; have := h.1; omega, fun i hi => (net_owes h hi).2.2.1⟩
theorem net_same {es : List Debt} (h : DrawnD es) (x : Int) : balF (nettedF es) x = balF es x := by
  rw [bal_M (net_ok h), bal_M (drawnD_ok h), net_is h, net_bal h]
/-- how many have a balance -/
noncomputable def debtorsN (es : List Debt) (k : Nat) : Int := sumG (fun (i : Nat) => if balF es ((i : Int) + 1) = 0 then 0 else 1) k
noncomputable def balsN (es : List Debt) (k : Nat) : Int := sumG (fun (i : Nat) => balF es ((i : Int) + 1)) k
theorem debtorsN_bd (es : List Debt) (k : Nat) : 0 ≤ debtorsN es k ∧ debtorsN es k ≤ k := by
  induction k with
  | zero => simp [debtorsN, sumG]
  | succ k ih => unfold debtorsN at *; rw [sumG]; split <;> omega
theorem balsN_bd {es : List Debt} (h : DrawnD es) (k : Nat) : -(480 * (k : Int)) ≤ balsN es k ∧ balsN es k ≤ 480 * (k : Int) := by
  induction k with
  | zero => simp [balsN, sumG]
  | succ k ih => have := bal_small h ((k : Int) + 1); unfold balsN at *; rw [sumG]; omega
theorem balsN_all {es : List Debt} (h : DrawnD es) : balsN es 20 = 0 := bal_sum (drawnD_ok h)
theorem nz_is (es : List Debt) : nzI (balL es) = debtorsN es 20 := by
  unfold nzI debtorsN
  exact sumG_congr fun i hi => by rw [balL_nth es (i + 1) (by omega)]; rfl
/-- the rounds of settling -/
structure Round (es : List Debt) (bs : List Int) (L : List Debt) : Prop where
  ok : balOk bs
  small : ∀ i, i < 21 → -480 ≤ nth bs i ∧ nth bs i ≤ 480
  same : ∀ x : Nat, 1 ≤ x → x ≤ 20 → nth bs x + M (balAt x) L = M (balAt x) es
  debts : ∀ d ∈ L, debAt d
  some_ : 0 < nzI bs → (L.length : Int) + nzI bs ≤ debtorsN es 20
  none_ : nzI bs = 0 → (L.length : Int) ≤ max 0 (debtorsN es 20 - 1)
structure Done (es S : List Debt) : Prop where
  same : ∀ x : Nat, 1 ≤ x → x ≤ 20 → M (balAt x) S = M (balAt x) es
  debts : ∀ d ∈ S, debAt d
  few : (S.length : Int) ≤ max 0 (debtorsN es 20 - 1)
theorem all_zero {bs : List Int} (h : balOk bs) (h0 : stN bs = 0) : ∀ i, 1 ≤ i → i ≤ 20 → nth bs i = 0 := by
  intro i h1 h2
  have hs := balOk_signs h
  have hd : stN bs = min (-(nth bs (miN bs 20))) (nth bs (maN bs 20)) := rfl
  have hlo := miN_le bs 20
  have hhi := maN_ge bs 20
  rcases (show nth bs (miN bs 20) = 0 ∨ nth bs (maN bs 20) = 0 by omega) with e | e
  · rcases Int.lt_or_le 0 (nth bs i) with hp | hp
    · have := sumG_lt (f := fun _ => 0) (g := fun i => nth bs (i + 1)) (n := 20) (k := i - 1) (fun j hj => by have := hlo (j + 1) (by omega) (by omega); (try simp only []); omega) (by omega) (by (try simp only []); rw [show i - 1 + 1 = i by omega]; exact hp)
      rw [h.2.2, sumG_zero] at this
      omega
    · have := hlo i h1 h2; omega
  · rcases Int.lt_or_le (nth bs i) 0 with hp | hp
    · have := sumG_lt (g := fun _ => 0) (f := fun i => nth bs (i + 1)) (n := 20) (k := i - 1) (fun j hj => by have := hhi (j + 1) (by omega) (by omega); (try simp only []); omega) (by omega) (by (try simp only []); rw [show i - 1 + 1 = i by omega]; exact hp)
      rw [h.2.2, sumG_zero] at this
      omega
    · have := hhi i h1 h2; omega
theorem two_nz {bs : List Int} (h : balOk bs) (hn : stN bs ≠ 0) : 2 ≤ nzI bs ∧ nth bs (miN bs 20) < 0 ∧ 0 < nth bs (maN bs 20) ∧ miN bs 20 ≠ maN bs 20 := by
  have hs := balOk_signs h
  have hd : stN bs = min (-(nth bs (miN bs 20))) (nth bs (maN bs 20)) := rfl
  have hb := miN_bd bs 20 (by omega)
  have hc := maN_bd bs 20 (by omega)
  have hne : miN bs 20 ≠ maN bs 20 := fun e => by rw [e] at hs hd; omega
  refine ⟨?_, by omega, by omega, hne⟩
  have h1 := sumG_le (f := fun (a : Nat) => (if (miN bs 20 : Int) == (a : Int) + 1 then (1 : Int) else 0) + (if (maN bs 20 : Int) == (a : Int) + 1 then (1 : Int) else 0)) (g := fun i => if nth bs (i + 1) = 0 then (0 : Int) else 1) (n := 20) fun i hi => by
    (try simp only [])
    by_cases e1 : miN bs 20 = i + 1
    · rw [if_pos (by simp; omega), if_neg (by simp; omega), if_neg (by rw [← e1]; omega)]; omega
    · rw [if_neg (by simp; omega)]
      by_cases e2 : maN bs 20 = i + 1
      · rw [if_pos (by simp; omega), if_neg (by rw [← e2]; omega)]; omega
      · rw [if_neg (by simp; omega)]; split <;> omega
  rw [sumG_add (fun (a : Nat) => if (miN bs 20 : Int) == (a : Int) + 1 then (1 : Int) else 0) (fun (a : Nat) => if (maN bs 20 : Int) == (a : Int) + 1 then (1 : Int) else 0), sumG_one, sumG_one, if_pos (by omega), if_pos (by omega)] at h1
  unfold nzI
  omega
theorem round_step {es : List Debt} {bs : List Int} {L : List Debt} (h : Round es bs L) (hn : stN bs ≠ 0) : Round es (stB bs) (L ++ [stD bs]) ∧ stN bs ≤ 480 := by
  obtain ⟨n2, hlo, hhi, hne⟩ := two_nz h.ok hn
  have hb := miN_bd bs 20 (by omega)
  have hc := maN_bd bs 20 (by omega)
  have hd : stN bs = min (-(nth bs (miN bs 20))) (nth bs (maN bs 20)) := rfl
  have s1 := h.small (miN bs 20) (by omega)
  have s2 := h.small (maN bs 20) (by omega)
  have hat := stB_nth h.ok hn
  obtain ⟨ok', nz'⟩ := stB_ok h.ok hn
  have hnn := nzI_bd (stB bs)
  have hsome := h.some_ (by omega)
  refine ⟨⟨ok', fun i hi => ?_, fun x h1 h2 => ?_, fun d hd' => ?_, fun hp => ?_, fun hz => ?_⟩, by omega⟩
  · have := h.small i hi
    rw [hat]
    split
    · rename_i e; subst e; omega
    · split
      · rename_i e; subst e; omega
      · exact this
  · rw [M_append, M_one, hat, bal_sg]
    have hsame := h.same x h1 h2
    unfold sg stD
    simp only
    repeat' split
    all_goals omega
  · rcases List.mem_append.1 hd' with hd' | hd'
    · exact h.debts d hd'
    · simp only [List.mem_singleton] at hd'
      subst hd'
      exact ⟨by simp only [stD]; omega, inB_mk (by simp only [stD]; omega), inB_mk (by simp only [stD]; omega), inB_mk (by simp only [stD]; omega)⟩
  · simp only [List.length_append, List.length_singleton]
    omega
  · simp only [List.length_append, List.length_singleton]
    omega
theorem stl_done {es : List Debt} : ∀ (f : Nat) (bs : List Int) (L : List Debt), Round es bs L → nzI bs < f → Done es (stl f bs L) := by
  intro f
  induction f with
  | zero => intro bs L _ hf; have := nzI_bd bs; omega
  | succ f ih =>
    intro bs L h hf
    rw [stl]
    by_cases h0 : stN bs = 0
    · rw [if_pos h0]
      have hz := all_zero h.ok h0
      have hnz : nzI bs = 0 := by
        unfold nzI
        rw [sumG_congr (g := fun _ => 0) fun i hi => by (try simp only []); rw [if_pos (hz (i + 1) (by omega) (by omega))], sumG_zero]
      exact ⟨fun x h1 h2 => by have := h.same x h1 h2; rw [hz x h1 h2] at this; omega, h.debts, h.none_ hnz⟩
    · obtain ⟨hr, h480⟩ := round_step h h0
      rw [if_neg h0, if_neg (by omega)]
      have := (stB_ok h.ok h0).2
      exact ih _ _ hr (by omega)
theorem round_start {es : List Debt} (h : DrawnD es) : Round es (balL es) [] := by
  refine ⟨balL_ok (drawnD_ok h), fun i hi => by rw [balL_nth es i hi]; exact bal_small h _, fun x h1 h2 => ?_, (fun d hd => by cases hd), fun _ => ?_, fun hz => ?_⟩
  · rw [balL_nth es x (by omega), bal_M (drawnD_ok h)]; simp [M]
  · rw [nz_is]; simp
  · simp; omega
theorem settled_law {es : List Debt} (h : DrawnD es) : debB (settledF es) = true ∧ (∀ x : Nat, 1 ≤ x → x ≤ 20 → balF (settledF es) x = balF es x) ∧ ((settledF es).length : Int) ≤ max 0 (debtorsN es 20 - 1) := by
  have hd : Done es (settledF es) := by
    rw [settledF, if_pos (drawnD_ok h)]
    exact stl_done 21 _ _ (round_start h) (by have := nzI_bd (balL es); omega)
  have hb := debtorsN_bd es 20
  have hok : debB (settledF es) = true := debB_yes ⟨by have := hd.few; omega, fun i hi => hd.debts _ (at_mem hi)⟩
  exact ⟨hok, fun x h1 h2 => by rw [bal_M hok, bal_M (drawnD_ok h)]; exact hd.same x h1 h2, hd.few⟩
/-- the first debt paid back whole -/
theorem pay_law {es : List Debt} (h : DrawnD es) (hn : 0 < es.length) : payF es 0 (Debt.at_ es 0).f2 = (es.drop 1, true) ∧ payF es 0 ((Debt.at_ es 0).f2 + 1) = (es, false) ∧
    balF (es.drop 1) (Debt.at_ es 0).f1 = balF es (Debt.at_ es 0).f1 - (Debt.at_ es 0).f2 := by
  have h0 := h.2 0 hn
  refine ⟨?_, ?_, ?_⟩
  · rw [payF_yes ⟨drawnD_ok h, inB_mk (by omega), inB_mk (by simp only [Int.toNat_zero]; omega)⟩]
    show (payL es 0 _, true) = _
    rw [payL, if_pos (by omega)]
    simp
  · exact payF_no fun c => by have := inB_yes c.2.2; simp only [Int.toNat_zero] at this; omega
  · have hD : DrawnD (es.drop 1) := by
      refine ⟨by have := h.1; simp; omega, fun i hi => ?_⟩
      have e : Debt.at_ (es.drop 1) i = Debt.at_ es (i + 1) := by simp [Debt.at_, List.getElem?_drop, Nat.add_comm]
      rw [e]
      exact h.2 (i + 1) (by simp at hi; omega)
    rw [bal_M (drawnD_ok hD), bal_M (drawnD_ok h)]
    obtain ⟨e, l, rfl⟩ : ∃ e l, es = e :: l := by cases es with | nil => simp at hn | cons e l => exact ⟨e, l, rfl⟩
    have e0 : Debt.at_ (e :: l) 0 = e := rfl
    rw [e0] at *
    rw [M]
    have : balAt e.f1 e = e.f2 := by unfold balAt; rw [if_pos (by simp), if_neg (by simp; exact h0.1)]; omega
    simp only [List.drop_succ_cons, List.drop_zero]
    omega
end Go.Proofs.Ytcjlipcoefcmgaa
