/- Four slices of the call's own that grow side by side. -/
import Derived.Test.YtohieonpegeokaaLoad
import Derived.Maps.AppendAt
namespace Go.Proofs.Ytohieonpegeokaa
open Go.RowKit Go.Shelf

def apart (v u : Value) : Prop := v.ownBlock = none ∨ u.ownBlock = none ∨ v.ownBlock ≠ u.ownBlock
theorem apart.symm {v u : Value} (h : apart v u) : apart u v := by
  rcases h with h | h | h
  · exact .inr (.inl h)
  · exact .inl h
  · exact .inr (.inr fun e => h e.symm)
theorem apart.new {w : World} {base : Nat} {e : TypeId} {k : IntKind} {v v' u : Value} {n : Nat} {f : Nat → Int} (h : apart v u) (hu : owns w base e k u n f) (hat : v'.ownBlock = v.ownBlock ∨ v'.ownBlock = some w.heap.size) : apart v' u := by
  rcases hat with hat | hat
  · unfold apart
    rw [hat]
    exact h
  · rcases hu.2 with ⟨rfl, _⟩ | ⟨g, cap, cur, rfl, _, hg, _⟩
    · exact .inr (.inl rfl)
    · refine .inr (.inr ?_)
      rw [hat]
      intro e
      have e2 : w.heap.size = g := by simpa [Value.ownBlock] using e
      subst e2
      simp at hg
theorem owns_apart {w w' : World} {base : Nat} {e : TypeId} {k : IntKind} {v u : Value} {n : Nat} {f : Nat → Int} (hu : owns w base e k u n f) (hg : w.grownBy w' v.ownBlock) (h : apart v u) : owns w' base e k u n f := by
  have h0 := hu
  rcases hu.2 with ⟨rfl, rfl⟩ | ⟨g, cap, cur, rfl, _⟩
  · exact World.ownsRow.kept h0 hg (.inl rfl)
  · rcases h with h | h | h
    · exact World.ownsRow.kept h0 hg (.inr (by rw [h]; simp [Value.ownBlock]))
    · cases h
    · exact World.ownsRow.kept h0 hg (.inr fun e => h e.symm)
structure Four (W : World) (B : Nat) (v3 v4 v5 v6 : Value) (n3 n4 n5 n6 : Nat) (f3 f4 f5 f6 : Nat → Int) : Prop where
  o3 : owns W B 5 .u8 v3 n3 f3
  o4 : owns W B 5 .u8 v4 n4 f4
  o5 : owns W B 5 .u8 v5 n5 f5
  o6 : owns W B 22 .u32 v6 n6 f6
  a34 : apart v3 v4
  a35 : apart v3 v5
  a36 : apart v3 v6
  a45 : apart v4 v5
  a46 : apart v4 v6
  a56 : apart v5 v6
section
variable {W W' : World} {B : Nat} {v v3 v4 v5 v6 : Value} {n n3 n4 n5 n6 : Nat} {f f3 f4 f5 f6 : Nat → Int}
theorem Four.below (h : Four W B v3 v4 v5 v6 n3 n4 n5 n6 f3 f4 f5 f6) (hb : Below W.heap.size W W') : Four W' B v3 v4 v5 v6 n3 n4 n5 n6 f3 f4 f5 f6 :=
  ⟨owns_below (Nat.le_refl _) hb h.o3, owns_below (Nat.le_refl _) hb h.o4, owns_below (Nat.le_refl _) hb h.o5, owns_below (Nat.le_refl _) hb h.o6, h.a34, h.a35, h.a36, h.a45, h.a46, h.a56⟩
theorem Four.app3 (h : Four W B v3 v4 v5 v6 n3 n4 n5 n6 f3 f4 f5 f6) (ho : owns W' B 5 .u8 v n f) (hg : W.grownBy W' v3.ownBlock) (hat : v.ownBlock = v3.ownBlock ∨ v.ownBlock = some W.heap.size) : Four W' B v v4 v5 v6 n n4 n5 n6 f f4 f5 f6 :=
  ⟨ho, owns_apart h.o4 hg h.a34, owns_apart h.o5 hg h.a35, owns_apart h.o6 hg h.a36, h.a34.new h.o4 hat, h.a35.new h.o5 hat, h.a36.new h.o6 hat, h.a45, h.a46, h.a56⟩
theorem Four.app4 (h : Four W B v3 v4 v5 v6 n3 n4 n5 n6 f3 f4 f5 f6) (ho : owns W' B 5 .u8 v n f) (hg : W.grownBy W' v4.ownBlock) (hat : v.ownBlock = v4.ownBlock ∨ v.ownBlock = some W.heap.size) : Four W' B v3 v v5 v6 n3 n n5 n6 f3 f f5 f6 :=
  ⟨owns_apart h.o3 hg h.a34.symm, ho, owns_apart h.o5 hg h.a45, owns_apart h.o6 hg h.a46, (h.a34.symm.new h.o3 hat).symm, h.a35, h.a36, h.a45.new h.o5 hat, h.a46.new h.o6 hat, h.a56⟩
theorem Four.app5 (h : Four W B v3 v4 v5 v6 n3 n4 n5 n6 f3 f4 f5 f6) (ho : owns W' B 5 .u8 v n f) (hg : W.grownBy W' v5.ownBlock) (hat : v.ownBlock = v5.ownBlock ∨ v.ownBlock = some W.heap.size) : Four W' B v3 v4 v v6 n3 n4 n n6 f3 f4 f f6 :=
  ⟨owns_apart h.o3 hg h.a35.symm, owns_apart h.o4 hg h.a45.symm, ho, owns_apart h.o6 hg h.a56, h.a34, (h.a35.symm.new h.o3 hat).symm, h.a36, (h.a45.symm.new h.o4 hat).symm, h.a46, h.a56.new h.o6 hat⟩
theorem Four.app6 (h : Four W B v3 v4 v5 v6 n3 n4 n5 n6 f3 f4 f5 f6) (ho : owns W' B 22 .u32 v n f) (hg : W.grownBy W' v6.ownBlock) (hat : v.ownBlock = v6.ownBlock ∨ v.ownBlock = some W.heap.size) : Four W' B v3 v4 v5 v n3 n4 n5 n f3 f4 f5 f :=
  ⟨owns_apart h.o3 hg h.a36.symm, owns_apart h.o4 hg h.a46.symm, owns_apart h.o5 hg h.a56.symm, ho, h.a34, h.a35, (h.a36.symm.new h.o3 hat).symm, h.a45, (h.a46.symm.new h.o4 hat).symm, (h.a56.symm.new h.o5 hat).symm⟩
theorem Four.ext {g3 g4 g5 g6 : Nat → Int} {m3 m4 m5 m6 : Nat} (h : Four W B v3 v4 v5 v6 n3 n4 n5 n6 f3 f4 f5 f6) (e3 : n3 = m3) (e4 : n4 = m4) (e5 : n5 = m5) (e6 : n6 = m6)
    (h3 : ∀ j, j < m3 → f3 j = g3 j) (h4 : ∀ j, j < m4 → f4 j = g4 j) (h5 : ∀ j, j < m5 → f5 j = g5 j) (h6 : ∀ j, j < m6 → f6 j = g6 j) : Four W B v3 v4 v5 v6 m3 m4 m5 m6 g3 g4 g5 g6 := by
  subst e3 e4 e5 e6
  exact ⟨owns_ext h3 h.o3, owns_ext h4 h.o4, owns_ext h5 h.o5, owns_ext h6 h.o6, h.a34, h.a35, h.a36, h.a45, h.a46, h.a56⟩
end
theorem own_grown {W W' : World} {B : Nat} {e : TypeId} {k : IntKind} {v : Value} {n : Nat} {f : Nat → Int} (ho : owns W B e k v n f) (hg : W.grownBy W' v.ownBlock) (hB : B ≤ W.heap.size) : Below B W W' :=
  (Below.refl B W).grown hg hB (fun r hr => by
    rcases ho.2 with ⟨rfl, _⟩ | ⟨g, cap, cur, rfl, hb, _⟩
    · simp [Value.ownBlock] at hr
    · simp [Value.ownBlock] at hr
      omega)
section
variable {P : Program} {ops : Array Oper} {rest : List Oper} {o : Oper} {a : Act} {w : World} {Q : Exit → Act → World → Prop}
theorem append_many_at {T e : TypeId} {bytes : Nat} (hT : EltT P T e bytes) (hgd : o.guard = none) (s x : Operand) (ho : o.op = .call { callee := .builtin .append, args := #[s, x], argTypes := #[T, T] })
    {base : Nat} {k : IntKind} {v : Value} {n : Nat} {f : Nat → Int} (hs : a.eval s = v) (hown : owns w base e k v n f) {ad : Addr} {m c : Nat} {g : Nat → Int}
    (hx : a.eval x = .slice (some ad) m c) (hr : reads w (some ad) m k g) (hn : n + m ≤ maxLen) (hby : (n + m) * bytes ≤ 140737488355328) (hbase : base ≤ w.heap.size)
    (h : ∀ v' w', owns w' base e k v' (n + m) (fun j => if j < n then f j else g (j - n)) → w.grownBy w' v.ownBlock → (v'.ownBlock = v.ownBlock ∨ v'.ownBlock = some w.heap.size) → wpList P ops Q rest (a.put o.dst v') w') : wpList P ops Q (o :: rest) a w := by
  obtain ⟨hu, i, z, hi, hz, h1, h2, h3⟩ := hT
  refine wpList_append_own_at w hgd s x T ho base e i z 1 bytes hu hi hz h1 h2 h3 (by decide) v n (vals k n f).toList hs hown ad m c (vals k m g).toList hx (by simp [vals_size]) (reads_news hr) vals_one hn hby hbase ?_
  intro v' w' h' hg _ hat
  refine h v' w' ?_ hg hat
  unfold owns
  rw [← vals_append]
  exact h'
theorem append_one_at {T e : TypeId} {bytes : Nat} (hT : EltT P T e bytes) (hgd : o.guard = none) (s x : Operand) (ho : o.op = .call { callee := .builtin .append, args := #[s, x], argTypes := #[T, T] })
    {base : Nat} {k : IntKind} {v : Value} {n : Nat} {f : Nat → Int} (hs : a.eval s = v) {w1 : World} (hown : owns w1 base e k v n f) {y : Int}
    (hx : a.eval x = .slice (some ⟨w1.heap.size, 0, none⟩) 1 1) (hw : w = w1.alloc (.cells #[.int k y] e)) (hn : n + 1 ≤ maxLen) (hby : (n + 1) * bytes ≤ 140737488355328) (hbase : base ≤ w1.heap.size)
    (h : ∀ v' w', owns w' base e k v' (n + 1) (fun j => if j < n then f j else y) → (w1.alloc (.cells #[.int k y] e)).grownBy w' v.ownBlock → (v'.ownBlock = v.ownBlock ∨ v'.ownBlock = some (w1.alloc (.cells #[.int k y] e)).heap.size) → wpList P ops Q rest (a.put o.dst v') w') : wpList P ops Q (o :: rest) a w := by
  subst hw
  obtain ⟨hu, i, z, hi, hz, h1, h2, h3⟩ := hT
  refine wpList_append_own_at _ hgd s x T ho base e i z 1 bytes hu hi hz h1 h2 h3 (by decide) v n (vals k n f).toList hs (hown.alloc _) ⟨w1.heap.size, 0, none⟩ 1 1 [.int k y] hx rfl (cell_one_new _ _ _) (by simp [Value.oneCell']) hn hby (by simp; omega) ?_
  intro v' w' h' hg _ hat
  refine h v' w' ?_ hg hat
  unfold owns
  rw [← vals_snoc]
  exact h'
end
/-- words, put and read again -/
theorem putI64_back (f : Nat → Nat) (j : Nat) (hf : f j < 18446744073709551616) : ∀ m, m ≤ 8 → beN (putI64 f) (j * 8) m = ((f j / 256 ^ (8 - m) : Nat) : Int)
  | 0, _ => by
    simp only [beN, Nat.sub_zero]
    rw [Nat.div_eq_of_lt (by simpa using hf)]
    rfl
  | m + 1, hm => by
    have ih := putI64_back f j hf m (by omega)
    simp only [beN]
    rw [ih]
    unfold putI64
    rw [show (j * 8 + m) / 8 = j by omega, show 7 - (j * 8 + m) % 8 = 8 - (m + 1) by omega, show 8 - m = 8 - (m + 1) + 1 by omega, Nat.pow_succ, ← Nat.div_div_eq_div_mul]
    generalize f j / 256 ^ (8 - (m + 1)) = y
    omega
theorem putI64_word (f : Nat → Nat) (j : Nat) (hf : f j < 18446744073709551616) : beN (putI64 f) (j * 8) 8 = (f j : Int) := by
  rw [putI64_back f j hf 8 (by omega)]
  simp
theorem putL64_word (f : Nat → Nat) (j : Nat) (hf : f j < 18446744073709551616) : leN (putL64 f) (j * 8) 8 = (f j : Int) := by
  rw [← putI64_word f j hf]
  unfold leN
  refine beN_congr 8 fun i hi => ?_
  unfold putI64 putL64
  rw [show (j * 8 + (7 - (0 + i))) / 8 = j by omega, show (j * 8 + i) / 8 = j by omega, show (j * 8 + (7 - (0 + i))) % 8 = 7 - (j * 8 + i) % 8 by omega]
theorem putI64_bd (f : Nat → Nat) (j : Nat) : 0 ≤ putI64 f j ∧ putI64 f j < 256 := by unfold putI64; omega
theorem putL64_bd (f : Nat → Nat) (j : Nat) : 0 ≤ putL64 f j ∧ putL64 f j < 256 := by unfold putL64; omega
end Go.Proofs.Ytohieonpegeokaa
