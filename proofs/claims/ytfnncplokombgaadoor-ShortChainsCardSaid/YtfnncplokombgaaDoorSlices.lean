/- Slices of numbers told by a function of the index: read ('reads'), owned and appended to ('owns'). -/
import Derived.Test.YtfnncplokombgaaDoorVals
import Derived.OwnWalk
import Derived.Maps.AppendAt
import Derived.Laws.OwnMore
namespace Go.Proofs.YtfnncplokombgaaDoor
open Go.RowKit

/-- the n numbers of a slice at address a are f 0, f 1, .. -/
def reads (w : World) (a : Option Addr) (n : Nat) (k : IntKind) (f : Nat → Int) : Prop :=
  0 < n → ∃ b off, a = some ⟨b, off, none⟩ ∧ ∀ j, j < n → w.cell? ⟨b, off + j, none⟩ = some (.int k (f j))
theorem reads_below {w w1 : World} {a : Option Addr} {n : Nat} {k : IntKind} {f : Nat → Int} {B : Nat} (hB : w.heap.size ≤ B) (hb : Below B w w1) (h : reads w a n k f) : reads w1 a n k f := by
  intro hn
  obtain ⟨b, off, rfl, hc⟩ := h hn
  refine ⟨b, off, rfl, fun j hj => ?_⟩
  rw [hb.cell (p := ⟨b, off + j, none⟩) (Nat.lt_of_lt_of_le (cell_lt (hc j hj)) hB)]
  exact hc j hj
theorem reads_alloc {w : World} {a : Option Addr} {n : Nat} {k : IntKind} {f : Nat → Int} (o : Obj) (h : reads w a n k f) : reads (w.alloc o) a n k f :=
  reads_below (Nat.le_refl _) ((Below.refl _ _).alloc (Nat.le_refl _) o) h
theorem reads_drewN {w : World} {a : Option Addr} {n : Nat} {k : IntKind} {f : Nat → Int} (d : Nat) (h : reads w a n k f) : reads (w.drewN d) a n k f := h
theorem reads_ext {w : World} {a : Option Addr} {n : Nat} {k : IntKind} {f g : Nat → Int} (hfg : ∀ j, j < n → f j = g j) (h : reads w a n k f) : reads w a n k g := by
  intro hn
  obtain ⟨b, off, rfl, hc⟩ := h hn
  exact ⟨b, off, rfl, fun j hj => by rw [← hfg j hj]; exact hc j hj⟩

/-- slice value v of n numbers is the call's own -/
def owns (w : World) (base : Nat) (e : TypeId) (k : IntKind) (v : Value) (n : Nat) (f : Nat → Int) : Prop := w.ownsRow base e 1 v n (vals k n f).toList
theorem owns_nil (w : World) (base : Nat) (e : TypeId) (k : IntKind) (f : Nat → Int) : owns w base e k (.slice none 0 0) 0 f := World.ownsRow_nil _ _ _ _
theorem owns_ext {w : World} {base : Nat} {e : TypeId} {k : IntKind} {v : Value} {n : Nat} {f g : Nat → Int} (hfg : ∀ j, j < n → f j = g j) (h : owns w base e k v n f) : owns w base e k v n g := by
  unfold owns at h ⊢
  rw [← vals_ext k n hfg]
  exact h
theorem owns_reads {w : World} {base : Nat} {e : TypeId} {k : IntKind} {v : Value} {n : Nat} {f : Nat → Int} (h : owns w base e k v n f) :
    ∃ a cap, v = .slice a n cap ∧ n ≤ cap ∧ cap ≤ maxLen ∧ reads w a n k f := by
  rcases h.2 with ⟨rfl, rfl⟩ | ⟨g, cap, cur, rfl, hb, hg, hn, hc, hs, ht⟩
  · exact ⟨none, 0, rfl, Nat.le_refl _, Nat.zero_le _, fun h => absurd h (by omega)⟩
  · refine ⟨_, cap, rfl, hn, hc, fun _ => ⟨g, 0, rfl, fun j hj => ?_⟩⟩
    rw [Nat.zero_add, World.ownsRow.cellAt h j (by omega), ← vals_get? k n f j hj]
    simp
theorem owns_below {w w1 : World} {base : Nat} {e : TypeId} {k : IntKind} {v : Value} {n : Nat} {f : Nat → Int} {B : Nat} (hB : w.heap.size ≤ B) (hb : Below B w w1) (h : owns w base e k v n f) : owns w1 base e k v n f := by
  unfold owns World.ownsRow at h ⊢
  refine ⟨h.1, ?_⟩
  rcases h.2 with h0 | ⟨g, cap, cur, hv, hbg, hg, r⟩
  · exact .inl h0
  · refine .inr ⟨g, cap, cur, hv, hbg, ?_, r⟩
    rw [hb.block g (Nat.lt_of_lt_of_le (by
      rcases Nat.lt_or_ge g w.heap.size with hl | hl
      · exact hl
      · simp [hl] at hg) hB)]
    exact hg
/-- T is a slice of numbers e of kind k, so many bytes each -/
def EltT (P : Program) (T e : TypeId) (bytes : Nat) : Prop :=
  P.underlying T = some (.slice e) ∧ ∃ i z, P.info? e = some i ∧ i.zero = some z ∧ i.size = 1 ∧ i.bytes = bytes ∧ z.cells.size = 1
theorem elt_of {P : Program} {T e : TypeId} {bytes : Nat} {k : IntKind} (hu : P.underlying T = some (.slice e)) (h : (P.info? e).map (fun i => (i.zero, i.size, i.bytes)) = some (some (.int k 0), 1, bytes)) : EltT P T e bytes := by
  obtain ⟨i, h1, h2, h3, h4⟩ := info_parts h
  exact ⟨hu, i, _, h1, h2, h3, h4, rfl⟩
theorem vals_snoc (k : IntKind) (n : Nat) (f : Nat → Int) (y : Int) : (vals k n f).toList ++ [.int k y] = (vals k (n + 1) (fun j => if j < n then f j else y)).toList := by
  simp only [vals, List.range_succ, List.map_append, List.map_cons, List.map_nil]
  rw [if_neg (Nat.lt_irrefl n)]
  congr 1
  · apply List.map_congr_left
    intro j hj
    simp only [List.mem_range] at hj
    simp [hj]
section
variable {P : Program} {ops : Array Oper} {rest : List Oper} {o : Oper} {a : Act} {w : World} {Q : Exit → Act → World → Prop}
/-- 'append(s, y)', s the call's own -/
theorem append_one {T e : TypeId} {bytes : Nat} (hT : EltT P T e bytes) (hgd : o.guard = none) (s x : Operand) (ho : o.op = .call { callee := .builtin .append, args := #[s, x], argTypes := #[T, T] })
    {base : Nat} {k : IntKind} {v : Value} {n : Nat} {f : Nat → Int} (hs : a.eval s = v) {w1 : World} (hown : owns w1 base e k v n f) {y : Int}
    (hx : a.eval x = .slice (some ⟨w1.heap.size, 0, none⟩) 1 1) (hw : w = w1.alloc (.cells #[.int k y] e)) (hn : n + 1 ≤ maxLen) (hby : (n + 1) * bytes ≤ 140737488355328) (hbase : base ≤ w1.heap.size)
    (h : ∀ v' w', owns w' base e k v' (n + 1) (fun j => if j < n then f j else y) → Below base w1 w' → wpList P ops Q rest (a.put o.dst v') w') : wpList P ops Q (o :: rest) a w := by
  subst hw
  obtain ⟨hu, i, z, hi, hz, h1, h2, h3⟩ := hT
  refine wpList_append_own _ hgd s x T ho base e i z 1 bytes hu hi hz h1 h2 h3 (by decide) v n (vals k n f).toList hs (hown.alloc _) ⟨w1.heap.size, 0, none⟩ 1 1 [.int k y] hx rfl (cell_one_new _ _ _) (by simp [Value.oneCell']) hn hby (by simp; omega) ?_
  intro v' w' h' hg _
  refine h v' w' ?_ ?_
  · unfold owns
    rw [← vals_snoc]
    exact h'
  · have hbl : Below base w1 (w1.alloc (.cells #[.int k y] e)) := (Below.refl _ _).alloc hbase _
    refine hbl.grown hg (by simp; omega) fun r hr => ?_
    rcases hown.2 with ⟨rfl, _⟩ | ⟨g, cap, cur, rfl, hb, _⟩
    · simp [Value.ownBlock] at hr
    · simp [Value.ownBlock] at hr; omega
end
end Go.Proofs.YtfnncplokombgaaDoor
