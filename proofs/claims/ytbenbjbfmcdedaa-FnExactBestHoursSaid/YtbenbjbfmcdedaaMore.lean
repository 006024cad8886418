/-
  More words on slices: an element or a whole slice appended to a slice of the call's own, two rows that never share a block, a tuple whose first part is a slice in new memory. No program in sight. Conditions: none.
-/
import Derived.Test.YtbenbjbfmcdedaaMem
import Derived.Maps.AppendAt
import Derived.Deep.AppendLies
namespace Go.Proofs.Ytbenbjbfmcdedaa
open Go.RowKit

/-- A call answers a tuple: a slice in new memory that holds xs, then 'ex'; what was there is as it was. -/
def FreshT (e : TypeId) (k n : Nat) (xs : List Value) (ex : List Value) (w : World) (en : Ending) (w' : World) : Prop :=
  ∃ A c, en = .returned (.tuple (.slice A n c :: ex).toArray) ∧ Own w' w.heap.size e k A n c xs ∧ Ext w w'

section
variable {w w' W : World} {base : Nat} {e : TypeId} {k n c : Nat} {A : Option Addr} {xs : List Value}
theorem Own.nil_ (w : World) (base : Nat) (e : TypeId) (k : Nat) : Own w base e k none 0 0 [] := ⟨by simp, .inl ⟨rfl, rfl⟩⟩
theorem Own.of_row {v : Value} (h : w.ownsRow base e k v n xs) : ∃ A c, v = .slice A n c ∧ Own w base e k A n c xs := by
  rcases h.2 with ⟨rfl, rfl⟩ | ⟨g, cap, cur, rfl, _⟩
  · exact ⟨none, 0, rfl, h⟩
  · exact ⟨_, cap, rfl, h⟩
/-- A literal '[]T{..}' in the block that it has just made. -/
theorem Own.lit {cs : Array Value} (hg : w.heap[base]? = some (.cells cs e (0, 0))) (hm : n ≤ maxLen) (hs : cs.size = n * k) : Own w base e k (some ⟨base, 0, none⟩) n n cs.toList :=
  ⟨by simpa using hs, .inr ⟨base, n, cs, rfl, Nat.le_refl _, hg, Nat.le_refl _, hm, hs, by rw [List.take_of_length_le (by simp; omega)]⟩⟩
/-- Rows of two spells of time lie in different blocks. -/
theorem Own.ne_lt {w1 w2 : World} {b1 b2 k1 k2 n1 n2 c1 c2 : Nat} {e1 e2 : TypeId} {A1 A2 : Option Addr} {xs1 xs2 : List Value} (o : Own w1 b1 e1 k1 A1 n1 c1 xs1) (o' : Own w2 b2 e2 k2 A2 n2 c2 xs2) (h : w1.heap.size ≤ b2) :
    (Value.slice A1 n1 c1).ownBlock = none ∨ (Value.slice A1 n1 c1).ownBlock ≠ (Value.slice A2 n2 c2).ownBlock := by
  cases hA : (Value.slice A1 n1 c1).ownBlock with
  | none => exact .inl rfl
  | some g =>
    refine .inr fun he => ?_
    have h1 := o.lt g hA
    have h2 := o'.lt g he.symm
    omega
theorem Own.ne_gt {w1 w2 : World} {b1 b2 k1 k2 n1 n2 c1 c2 : Nat} {e1 e2 : TypeId} {A1 A2 : Option Addr} {xs1 xs2 : List Value} (o : Own w1 b1 e1 k1 A1 n1 c1 xs1) (o' : Own w2 b2 e2 k2 A2 n2 c2 xs2) (h : w2.heap.size ≤ b1) :
    (Value.slice A1 n1 c1).ownBlock = none ∨ (Value.slice A1 n1 c1).ownBlock ≠ (Value.slice A2 n2 c2).ownBlock := by
  cases hA : (Value.slice A1 n1 c1).ownBlock with
  | none => exact .inl rfl
  | some g =>
    refine .inr fun he => ?_
    have h1 := o.lt g hA
    have h2 := o'.lt g he.symm
    omega
/-- A row of the call's own, written: what was there ahead of the call is as it was. -/
theorem Own.ext_grown {W w1 w2 : World} (x : Ext W w1) (o : Own w1 base e k A n c xs) (hb : W.heap.size ≤ base) (hg : w1.grownBy w2 (Value.slice A n c).ownBlock) : Ext W w2 :=
  x.grown hg fun g hgb => Nat.le_trans hb (o.lt g hgb).1
theorem heap_last {w : World} {o : Obj} {B : Nat} (hB : B = w.heap.size) : (w.alloc o).heap[B]? = some o := hB ▸ heap_alloc_new w o
theorem Fresh.nil_ {w0 : World} (x : Ext w0 w') : Fresh e k 0 [] w0 (.returned (.slice none 0 0)) w' := ⟨none, 0, rfl, Own.nil_ _ _ _ _, x⟩
theorem add_lit0 (b off j : Nat) : (⟨b, off, none⟩ : Addr).add j = ⟨b, off + j, none⟩ := Addr.add_lit b off j
end

section
variable {P : Program}
/-- 'out = append(out, x)': one element of k cells, which has been laid into a block B of its own. -/
theorem wpList_push {w : World} {ops : Array Oper} {rest : List Oper} {o : Oper} {a : Act} {Q : Exit → Act → World → Prop} (W : World) (hW : Ext W w) (hgd : o.guard = none) (s x : Operand) (t : TypeId)
    (ho : o.op = .call { callee := .builtin .append, args := #[s, x], argTypes := #[t, t] })
    (e : TypeId) (z : Value) (k bytes : Nat) (hinfo : (P.info? e).map (fun i => (i.zero, i.size, i.bytes)) = some (some z, k, bytes)) (ht : P.underlying t = some (.slice e))
    (hzs : z.cells.size = k) (hk : 0 < k) (A : Option Addr) (n c : Nat) (xs : List Value) (hs : a.eval s = .slice A n c) (hown : Own w W.heap.size e k A n c xs)
    (B : Nat) (cs : Array Value) (ty : TypeId) (hx : a.eval x = .slice (some ⟨B, 0, none⟩) 1 1) (hB : w.heap[B]? = some (.cells cs ty (0, 0))) (hl : cs.size = k) (h1 : ∀ u ∈ cs.toList, u.oneCell' = true)
    (hn : (n + 1) * bytes ≤ 140737488355328) (hb0 : 0 < bytes)
    (h : ∀ A' c' w', Own w' W.heap.size e k A' (n + 1) c' (xs ++ cs.toList) → Ext W w' → wpList P ops Q rest (a.put o.dst (.slice A' (n + 1) c')) w') : wpList P ops Q (o :: rest) a w := by
  obtain ⟨i, hi, hz, hsz, hby⟩ := info_parts hinfo
  have hm : n + 1 ≤ maxLen := by
    have := Nat.le_mul_of_pos_right (n + 1) hb0
    unfold maxLen
    omega
  refine wpList_append_own w hgd s x t ho W.heap.size e i z k bytes ht hi hz hsz hby hzs hk (.slice A n c) n xs hs hown ⟨B, 0, none⟩ 1 1 cs.toList hx (by simpa using hl) (World.news_of_block hB) h1 hm hn hW.len ?_
  intro v' w' hown' hg _
  obtain ⟨A', c', rfl, ho'⟩ := Own.of_row hown'
  exact h A' c' w' ho' (hW.grown hg fun g hgb => (hown.lt g hgb).1)

/-- The rows A and A1 lie in different blocks. -/
def Apart (A : Option Addr) (n c : Nat) (A1 : Option Addr) (n1 c1 : Nat) : Prop := (Value.slice A1 n1 c1).ownBlock = none ∨ (Value.slice A1 n1 c1).ownBlock ≠ (Value.slice A n c).ownBlock
/-- 'out = append(out, x)', and another row A1 that lies apart: it stays as it was, and apart. -/
theorem wpList_push2 {w : World} {ops : Array Oper} {rest : List Oper} {o : Oper} {a : Act} {Q : Exit → Act → World → Prop} (W : World) (hW : Ext W w) (hgd : o.guard = none) (s x : Operand) (t : TypeId)
    (ho : o.op = .call { callee := .builtin .append, args := #[s, x], argTypes := #[t, t] })
    (e : TypeId) (z : Value) (k bytes : Nat) (hinfo : (P.info? e).map (fun i => (i.zero, i.size, i.bytes)) = some (some z, k, bytes)) (ht : P.underlying t = some (.slice e))
    (hzs : z.cells.size = k) (hk : 0 < k) (A : Option Addr) (n c : Nat) (xs : List Value) (hs : a.eval s = .slice A n c) (hown : Own w W.heap.size e k A n c xs)
    (b1 : Nat) (e1 : TypeId) (k1 : Nat) (A1 : Option Addr) (n1 c1 : Nat) (xs1 : List Value) (hown1 : Own w b1 e1 k1 A1 n1 c1 xs1) (hap : Apart A n c A1 n1 c1)
    (B : Nat) (cs : Array Value) (ty : TypeId) (hx : a.eval x = .slice (some ⟨B, 0, none⟩) 1 1) (hB : w.heap[B]? = some (.cells cs ty (0, 0))) (hl : cs.size = k) (h1 : ∀ u ∈ cs.toList, u.oneCell' = true)
    (hn : (n + 1) * bytes ≤ 140737488355328) (hb0 : 0 < bytes)
    (h : ∀ A' c' w', Own w' W.heap.size e k A' (n + 1) c' (xs ++ cs.toList) → Ext W w' → Own w' b1 e1 k1 A1 n1 c1 xs1 → Apart A' (n + 1) c' A1 n1 c1 → wpList P ops Q rest (a.put o.dst (.slice A' (n + 1) c')) w') : wpList P ops Q (o :: rest) a w := by
  obtain ⟨i, hi, hz, hsz, hby⟩ := info_parts hinfo
  have hm : n + 1 ≤ maxLen := by
    have := Nat.le_mul_of_pos_right (n + 1) hb0
    unfold maxLen
    omega
  refine wpList_append_own_at w hgd s x t ho W.heap.size e i z k bytes ht hi hz hsz hby hzs hk (.slice A n c) n xs hs hown ⟨B, 0, none⟩ 1 1 cs.toList hx (by simpa using hl) (World.news_of_block hB) h1 hm hn hW.len ?_
  intro v' w' hown' hg _ hat
  obtain ⟨A', c', rfl, ho'⟩ := Own.of_row hown'
  refine h A' c' w' ho' (hW.grown hg fun g hgb => (hown.lt g hgb).1) (hown1.kept hg hap) ?_
  rcases hap with h0 | h0
  · exact .inl h0
  · right
    rcases hat with h2 | h2
    · rw [h2]; exact h0
    · rw [h2]
      intro he
      have := (hown1.lt _ he).2
      omega

/-- The same at a step of a region that draws its order. -/
theorem step_push {w : World} {ops : Array Oper} {o : Oper} {a : Act} {K : Act → World → Prop} {Q : Exit → Act → World → Prop} {E : Prop} (W : World) (hW : Ext W w) (hgd : o.guard = none) (s x : Operand) (t : TypeId)
    (ho : o.op = .call { callee := .builtin .append, args := #[s, x], argTypes := #[t, t] })
    (e : TypeId) (z : Value) (k bytes : Nat) (hinfo : (P.info? e).map (fun i => (i.zero, i.size, i.bytes)) = some (some z, k, bytes)) (ht : P.underlying t = some (.slice e))
    (hzs : z.cells.size = k) (hk : 0 < k) (A : Option Addr) (n c : Nat) (xs : List Value) (hs : a.eval s = .slice A n c) (hown : Own w W.heap.size e k A n c xs)
    (B : Nat) (cs : Array Value) (ty : TypeId) (hx : a.eval x = .slice (some ⟨B, 0, none⟩) 1 1) (hB : w.heap[B]? = some (.cells cs ty (0, 0))) (hl : cs.size = k) (h1 : ∀ u ∈ cs.toList, u.oneCell' = true)
    (hn : (n + 1) * bytes ≤ 140737488355328) (hb0 : 0 < bytes)
    (h : ∀ A' c' w', Own w' W.heap.size e k A' (n + 1) c' (xs ++ cs.toList) → Ext W w' → K (a.put o.dst (.slice A' (n + 1) c')) w') : if Region.wanted o (yielded ops a.tmps) = true then Oper.wp P o a w K Q else E := by
  obtain ⟨i, hi, hz, hsz, hby⟩ := info_parts hinfo
  have hm : n + 1 ≤ maxLen := by
    have := Nat.le_mul_of_pos_right (n + 1) hb0
    unfold maxLen
    omega
  have hw : Region.wanted o (yielded ops a.tmps) = true := by simp [Region.wanted, hgd]
  rw [if_pos hw]
  refine wp_append_own w s x t ho W.heap.size e i z k bytes ht hi hz hsz hby hzs hk (.slice A n c) n xs hs hown ⟨B, 0, none⟩ 1 1 cs.toList hx (by simpa using hl) (World.news_of_block hB) h1 hm hn hW.len ?_
  intro v' w' hown' hg _
  obtain ⟨A', c', rfl, ho'⟩ := Own.of_row hown'
  exact h A' c' w' ho' (hW.grown hg fun g hgb => (hown.lt g hgb).1)

theorem run_append_of_nil (w : World) (base : Nat) (t ty e : TypeId) (i : TypeInfo) (size : Nat) (ht : P.underlying t = some (.slice e)) (hi : P.info? e = some i)
    (v : Value) (n : Nat) (xs : List Value) (hown : w.ownsRow base e size v n xs) (c : Nat) : (Builtin.append_ #[t, t] ty #[v, .slice none 0 c]).run P w = .ok v w := by
  rcases hown.2 with ⟨rfl, rfl⟩ | ⟨g, cap, cur, rfl, _, _, hnc, _⟩
  · simp [Builtin.append_, run_underlying ht, sizeOf, typeInfo, hi, Builtin.lenOf, Builtin.firstCells]
  · simp [Builtin.append_, run_underlying ht, sizeOf, typeInfo, hi, Builtin.lenOf, Builtin.firstCells, hnc, storeCells]

/-- 'out = append(out, ys...)': whatever ys is: nil, empty or not. -/
theorem wpList_cat {w : World} {ops : Array Oper} {rest : List Oper} {o : Oper} {a : Act} {Q : Exit → Act → World → Prop} (W : World) (hW : Ext W w) (hgd : o.guard = none) (s x : Operand) (t : TypeId)
    (ho : o.op = .call { callee := .builtin .append, args := #[s, x], argTypes := #[t, t] })
    (e : TypeId) (z : Value) (k bytes : Nat) (hinfo : (P.info? e).map (fun i => (i.zero, i.size, i.bytes)) = some (some z, k, bytes)) (ht : P.underlying t = some (.slice e))
    (hzs : z.cells.size = k) (hk : 0 < k) (A : Option Addr) (n c : Nat) (xs : List Value) (hs : a.eval s = .slice A n c) (hown : Own w W.heap.size e k A n c xs)
    (B : Option Addr) (m d : Nat) (ys : List Value) (hx : a.eval x = .slice B m d) (hy : Holds w k B m d ys) (h1 : ∀ u ∈ ys, u.oneCell' = true)
    (hn : (n + m) * bytes ≤ 140737488355328) (hb0 : 0 < bytes)
    (h : ∀ A' c' w', Own w' W.heap.size e k A' (n + m) c' (xs ++ ys) → Ext W w' → wpList P ops Q rest (a.put o.dst (.slice A' (n + m) c')) w') : wpList P ops Q (o :: rest) a w := by
  obtain ⟨i, hi, hz, hsz, hby⟩ := info_parts hinfo
  have hm : n + m ≤ maxLen := by
    have := Nat.le_mul_of_pos_right (n + m) hb0
    unfold maxLen
    omega
  rcases B with _ | ad
  · have hm0 : ys = [] := by
      rcases Nat.eq_zero_or_pos ys.length with h0 | h0
      · exact List.eq_nil_of_length_eq_zero h0
      · obtain ⟨_, _, hA, _⟩ := hy.2.2.2 h0
        cases hA
    subst hm0
    have hm1 : m = 0 := by
      have := hy.1
      rcases Nat.eq_zero_or_pos m with h0 | h0
      · exact h0
      · have := Nat.mul_pos h0 hk
        simp at *
        omega
    subst hm1
    have hrun := run_append_of_nil (P := P) w W.heap.size t o.type e i k ht hi (.slice A n c) n xs hown d
    refine wpList_plain hgd fun K hK => ?_
    unfold Oper.wp execOp
    simp only [ho, resolve, invoke, builtin, Sem.run_bind, Sem.run_pure, Result.andThen_ok, List.map_toArray, List.map_cons, List.map_nil, hs, hx, hrun]
    exact hK _ _ (h A c w (by simpa using hown) hW)
  · have hcells : ∀ j u, ys[j]? = some u → w.cell? (ad.add j) = some u := by
      intro j u hu
      have hp : 0 < ys.length := by
        have := (List.getElem?_eq_some_iff.1 hu).1
        omega
      obtain ⟨b, off, hA, _, hc⟩ := hy.2.2.2 hp
      injection hA with hA
      subst hA
      rw [add_lit0]
      exact hc j u hu
    refine wpList_append_own w hgd s x t ho W.heap.size e i z k bytes ht hi hz hsz hby hzs hk (.slice A n c) n xs hs hown ad m d ys hx hy.1 hcells h1 hm hn hW.len ?_
    intro v' w' hown' hg _
    obtain ⟨A', c', rfl, ho'⟩ := Own.of_row hown'
    exact h A' c' w' ho' (hW.grown hg fun g hgb => (hown.lt g hgb).1)
end
/-- The cells of 's[i:]'. -/
theorem Holds.cut {w : World} {k b off n c i : Nat} {xs : List Value} (h : Holds w k (some ⟨b, off, none⟩) n c xs) (hi : i ≤ n) {ao : Option Addr} (hao : ¬ c = i → ao = some ⟨b, off + i * k, none⟩) :
    ∀ ad, ao = some ad → ∀ j u, (xs.drop (i * k))[j]? = some u → w.cell? (ad.add j) = some u := by
  intro ad had j u hu
  rw [List.getElem?_drop] at hu
  have hl : i * k + j < xs.length := (List.getElem?_eq_some_iff.1 hu).1
  have hin : i < n := by
    rcases Nat.lt_or_ge i n with h1 | h1
    · exact h1
    · have := Nat.mul_le_mul_right k h1
      have := h.1
      omega
  have := h.2.1
  rw [hao (by omega)] at had
  injection had with had
  subst had
  obtain ⟨b', off', hA, _, hc⟩ := h.2.2.2 (by omega)
  injection hA with hA
  injection hA with e1 e2
  subst e1
  subst e2
  rw [add_lit0, Nat.add_assoc]
  exact hc _ u hu
end Go.Proofs.Ytbenbjbfmcdedaa
