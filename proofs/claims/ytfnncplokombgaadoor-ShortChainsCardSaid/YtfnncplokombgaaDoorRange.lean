/- For loops over slices.Chunk: what a body keeps; one number appended in a round. -/
import Derived.Test.YtfnncplokombgaaDoorChunk
import Derived.RangeFuncNested
import Derived.RangeFuncBound
import Derived.RangeFuncCalls
namespace Go.Proofs.YtfnncplokombgaaDoor
open Go.RowKit Go.Shelf

/-- all blocks below n₁ but one lie as they lay -/
def Kpt (n₁ B : Nat) (W W' : World) : Prop := ∀ k, k < n₁ → k ≠ B → W'.heap[k]? = W.heap[k]?
theorem Kpt.refl (n₁ B : Nat) (W : World) : Kpt n₁ B W W := fun _ _ _ => rfl
theorem Kpt.trans {n₁ B : Nat} {X Y Z : World} (h : Kpt n₁ B X Y) (h2 : Kpt n₁ B Y Z) : Kpt n₁ B X Z := fun k a b => (h2 k a b).trans (h k a b)
theorem Kpt.putObj {n₁ B : Nat} {w : World} (hn : n₁ ≤ w.heap.size) (W : World) (l : Nat) (o o' : Obj) (hl : w.heap.size ≤ l) (_ : W.heap[l]? = some o) (_ : o.isCells = false) (_ : o.isWalk = false) : Kpt n₁ B W (W.putObj l o') :=
  fun k hk _ => (grownBy_putObj' W l o').block k (by
    rcases Nat.lt_or_ge k W.heap.size with h | h
    · exact h
    · have := (Array.getElem?_eq_some_iff.1 ‹W.heap[l]? = some o›).1
      omega) (fun e => by cases e; omega)
theorem Kpt.cell {n₁ B : Nat} {W W' : World} (h : Kpt n₁ B W W') (k : Nat) (hk : k < n₁) (hB : k ≠ B) : W'.cell? ⟨k, 0, none⟩ = W.cell? ⟨k, 0, none⟩ :=
  World.cell?_of_block (h k hk hB)
theorem Kpt.of_below {n₁ B : Nat} {W W' : World} (h : Below n₁ W W') : Kpt n₁ B W W' := fun k hk _ => h.block k hk
theorem Kpt.setCell {n₁ B : Nat} (W : World) (v : Value) : Kpt n₁ B W (W.setCell ⟨B, 0, none⟩ v) := fun k _ hB => Below.heap_setCell W _ v k (fun e => hB e)

/-- 'append(s, y)' inside a fence, s the call's own -/
theorem append_one_in {F : Fence} {nf : Nat} {P : Program} {ops : Array Oper} {rest : List Oper} {o : Oper} {a : Act} {w : World} {Q : Exit → Act → World → Prop}
    {T e : TypeId} {bytes : Nat} (hT : EltT P T e bytes) (hgd : o.guard = none) (s x : Operand) (ho : o.op = .call { callee := .builtin .append, args := #[s, x], argTypes := #[T, T] })
    {base : Nat} {k : IntKind} {v : Value} {n : Nat} {f : Nat → Int} (hs : a.eval s = v) {w1 : World} (hown : owns w1 base e k v n f) {y : Int}
    (hx : a.eval x = .slice (some ⟨w1.heap.size, 0, none⟩) 1 1) (hw : w = w1.alloc (.cells #[.int k y] e)) (hn : n + 1 ≤ maxLen) (hby : (n + 1) * bytes ≤ 140737488355328) (hbase : base ≤ w1.heap.size)
    (h : ∀ g cap w', owns w' base e k (.slice (some ⟨g, 0, none⟩) (n + 1) cap) (n + 1) (fun j => if j < n then f j else y) → (w1.alloc (.cells #[.int k y] e)).grownBy w' v.ownBlock → wpListIn F nf P ops Q rest (a.put o.dst (.slice (some ⟨g, 0, none⟩) (n + 1) cap)) w') : wpListIn F nf P ops Q (o :: rest) a w := by
  subst hw
  obtain ⟨hu, i, z, hi, hz, h1, h2, h3⟩ := hT
  refine wpListIn_append_own _ hgd s x T ho base e i z 1 bytes hu hi hz h1 h2 h3 (by decide) v n (vals k n f).toList hs (hown.alloc _) ⟨w1.heap.size, 0, none⟩ 1 1 [.int k y] hx rfl (cell_one_new _ _ _) (by simp [Value.oneCell']) hn hby (by simp; omega) ?_
  intro v' w' h' hg _
  obtain ⟨g, cap, rfl⟩ := ownsRow_succ h'
  refine h g cap w' ?_ hg
  unfold owns
  rw [← vals_snoc]
  exact h'
theorem owns_base {w : World} {base base' : Nat} {e : TypeId} {k : IntKind} {v : Value} {n : Nat} {f : Nat → Int} (hb : base' ≤ base) (h : owns w base e k v n f) : owns w base' e k v n f := by
  unfold owns World.ownsRow at h ⊢
  refine ⟨h.1, ?_⟩
  rcases h.2 with h0 | ⟨g, cap, cur, hv, hbg, r⟩
  · exact .inl h0
  · exact .inr ⟨g, cap, cur, hv, Nat.le_trans hb hbg, r⟩

/-- 'out = append(out, y)', out in a box: all that the walk owes -/
theorem box_appended {W w1 : World} {n₀ n₁ B : Nat} {t e : TypeId} {k : IntKind} {v v' : Value} {n m : Nat} {f g : Nat → Int} {tmp : Obj} (hn0 : n₀ ≤ B) (hB1 : B < n₁) (hn1 : n₁ ≤ W.heap.size)
    (hv : Boxed W B t v) (hte : t ≠ e) (hrow : owns W n₁ e k v n f) (hown' : owns w1 n₁ e k v' m g) (hgrow : (W.alloc tmp).grownBy w1 v.ownBlock) :
    Boxed w1 B t v ∧ Boxed (w1.setCell ⟨B, 0, none⟩ v') B t v' ∧ owns (w1.setCell ⟨B, 0, none⟩ v') n₁ e k v' m g ∧ KeepsOthers W (w1.setCell ⟨B, 0, none⟩ v') ∧ Below n₀ W (w1.setCell ⟨B, 0, none⟩ v') ∧ Kpt n₁ B W (w1.setCell ⟨B, 0, none⟩ v') := by
  obtain ⟨h1, h2, _, h4, h5⟩ := Boxed.appended hv hte (owns_base (base' := n₀) (by omega) hrow) (by omega) hn0 (owns_base (base' := n₀) (by omega) hown') hgrow
  refine ⟨h1, h2, World.ownsRow.kept hown' (grownBy_setCell' w1 B v') (.inr (h1.not_row hte hown').symm), h4, h5, ?_⟩
  refine Kpt.trans (fun j hj _ => ?_) (Kpt.setCell w1 v')
  rw [hgrow.block j (by simp; omega) ?_, Below.heap_alloc W tmp j (by omega)]
  intro e'
  rcases hrow.2 with ⟨rfl, _⟩ | ⟨g', cap, cur, rfl, hb, _⟩
  · simp [Value.ownBlock] at e'
  · simp [Value.ownBlock] at e'
    omega
/-- the number of so many bytes from place p on, the great end first -/
def beN (f : Nat → Int) (p : Nat) : Nat → Int
  | 0 => 0
  | j + 1 => beN f p j * 256 + f (p + j)
theorem beN_bd (f : Nat → Int) (p : Nat) : ∀ n, (∀ j, j < n → 0 ≤ f (p + j) ∧ f (p + j) < 256) → 0 ≤ beN f p n ∧ beN f p n < 256 ^ n
  | 0, _ => by simp [beN]
  | n + 1, h => by
    have ih := beN_bd f p n (fun j hj => h j (by omega))
    have h1 := h n (by omega)
    simp only [beN, Int.pow_succ]
    omega
theorem pow256_le {j n : Nat} (h : j ≤ n) : (256 : Int) ^ j ≤ 256 ^ n := by
  have h1 : (256 : Nat) ^ j ≤ 256 ^ n := Nat.pow_le_pow_right (by omega) h
  have h2 : ((256 ^ j : Nat) : Int) ≤ ((256 ^ n : Nat) : Int) := Int.ofNat_le.2 h1
  simpa using h2
theorem beN_congr {f g : Nat → Int} {p q : Nat} : ∀ n, (∀ j, j < n → f (p + j) = g (q + j)) → beN f p n = beN g q n
  | 0, _ => rfl
  | n + 1, h => by simp only [beN]; rw [beN_congr n (fun j hj => h j (by omega)), h n (by omega)]
theorem getD_append_lt (l : List Nat) (x : Nat) {j : Nat} (h : j < l.length) : (l ++ [x]).getD j 0 = l.getD j 0 := by
  simp [List.getD, List.getElem?_append_left h]
theorem getD_append_at (l : List Nat) (x : Nat) : (l ++ [x]).getD l.length 0 = x := by simp [List.getD]
theorem getD_range {n j : Nat} (h : j < n) : (List.range n).getD j 0 = j := by simp [List.getD, h]
/-- every chunk full: so many chunks -/
theorem chunks_full {len sz : Nat} (h : 1 ≤ sz) (hall : ∀ x ∈ List.range ((len + sz - 1) / sz), (min x ((len - 1) / sz) + 1) * sz ≤ len) : (len + sz - 1) / sz = len / sz ∧ ∀ j, j < len / sz → min j ((len - 1) / sz) = j := by
  rcases Nat.eq_zero_or_pos len with rfl | hl
  · rw [Nat.div_eq_of_lt (show 0 + sz - 1 < sz by omega), Nat.zero_div]
    exact ⟨rfl, fun j hj => absurd hj (by omega)⟩
  · have e1 : (len + sz - 1) / sz = (len - 1) / sz + 1 := by
      rw [show len + sz - 1 = len - 1 + sz by omega, Nat.add_div_right _ (by omega)]
    have h1 := hall ((len - 1) / sz) (by rw [e1]; simp)
    rw [Nat.min_self] at h1
    have h2 := (Nat.le_div_iff_mul_le (by omega : 0 < sz)).2 h1
    have h3 : len / sz ≤ (len - 1 + sz) / sz := Nat.div_le_div_right (by omega)
    rw [Nat.add_div_right _ (by omega)] at h3
    refine ⟨by omega, fun j hj => by omega⟩
/-- the last chunk short: the chunks ahead of it -/
theorem chunks_short {len sz k x : Nat} {ini : List Nat} (h : 1 ≤ sz) (hk : k * sz < len) (e : List.range (k + 1) = ini ++ [x]) (hs : len < (min x ((len - 1) / sz) + 1) * sz) :
    ini = List.range k ∧ x = k ∧ len / sz = k ∧ ∀ j, j < k → min j ((len - 1) / sz) = j := by
  rw [List.range_succ] at e
  obtain ⟨rfl, h2⟩ := List.append_inj' e rfl
  obtain rfl : k = x := by simpa using h2
  have h3 : k ≤ (len - 1) / sz := (Nat.le_div_iff_mul_le (by omega : 0 < sz)).2 (by omega)
  rw [Nat.min_eq_left h3] at hs
  refine ⟨rfl, rfl, ?_, fun j hj => by omega⟩
  have h4 := (Nat.div_lt_iff_lt_mul (by omega : 0 < sz)).2 hs
  have h5 := (Nat.le_div_iff_mul_le (by omega : 0 < sz)).2 (Nat.le_of_lt hk)
  omega
end Go.Proofs.YtfnncplokombgaaDoor
