/- Bytes: appended many at once; slices.Clone; slices.Reverse in place. -/
import Derived.Test.YtohieonpegeokaaSlices
import Derived.Test.YtohieonpegeokaaProg
import Derived.Shelf.RegionOpenPlain
import Derived.WalkKit
import Derived.Deep.LoopGhost
import Derived.Lib.Walk
import Derived.Sort.WalkB12
import Derived.Lib.SlicesMore
import Derived.Lib.SliceRun
namespace Go.Proofs.Ytohieonpegeokaa
open Go.RowKit Go.Shelf Go.Lib Go.Sort

theorem elt8w : EltT Try.prog 41 5 1 := elt_of (k := .u8) Try.underlying41 (by kernel_rfl)

theorem vals_append (k : IntKind) (n m : Nat) (f g : Nat → Int) : (vals k n f).toList ++ (vals k m g).toList = (vals k (n + m) (fun j => if j < n then f j else g (j - n))).toList := by
  apply List.ext_getElem?
  intro j
  rw [List.getElem?_append]
  simp only [Array.getElem?_toList, Array.length_toList, vals_size]
  by_cases h : j < n
  · rw [if_pos h, vals_get? _ _ _ _ h, vals_get? _ _ _ _ (by omega), if_pos h]
  · rw [if_neg h]
    by_cases h2 : j < n + m
    · rw [vals_get? _ _ _ _ (by omega), vals_get? _ _ _ _ h2, if_neg h]
    · rw [Array.getElem?_eq_none (by rw [vals_size]; omega), Array.getElem?_eq_none (by rw [vals_size]; omega)]
theorem vals_one {k : IntKind} {n : Nat} {f : Nat → Int} : ∀ u ∈ (vals k n f).toList, u.oneCell' = true := by
  intro u hu
  simp only [vals, List.mem_map, List.mem_range] at hu
  obtain ⟨j, _, rfl⟩ := hu
  rfl
/-- what 'reads' tells, in the form that the laws on append ask -/
theorem reads_news {w : World} {ad : Addr} {n : Nat} {k : IntKind} {f : Nat → Int} (h : reads w (some ad) n k f) : ∀ (j : Nat) (u : Value), (vals k n f).toList[j]? = some u → w.cell? (ad.add j) = some u := by
  intro j u hu
  have hj : j < n := by
    rcases Nat.lt_or_ge j n with h1 | h1
    · exact h1
    · rw [Array.getElem?_toList, Array.getElem?_eq_none (by rw [vals_size]; omega)] at hu
      cases hu
  obtain ⟨b, off, e, hc⟩ := h (by omega)
  cases e
  rw [Array.getElem?_toList, vals_get? _ _ _ _ hj] at hu
  rw [Addr.add_lit, hc j hj]
  exact hu
section
variable {P : Program} {ops : Array Oper} {rest : List Oper} {o : Oper} {a : Act} {w : World} {Q : Exit → Act → World → Prop}
/-- 'append(s, x...)', s the call's own -/
theorem append_many {T e : TypeId} {bytes : Nat} (hT : EltT P T e bytes) (hgd : o.guard = none) (s x : Operand) (ho : o.op = .call { callee := .builtin .append, args := #[s, x], argTypes := #[T, T] })
    {base : Nat} {k : IntKind} {v : Value} {n : Nat} {f : Nat → Int} (hs : a.eval s = v) (hown : owns w base e k v n f) {ad : Addr} {m c : Nat} {g : Nat → Int}
    (hx : a.eval x = .slice (some ad) m c) (hr : reads w (some ad) m k g) (hn : n + m ≤ maxLen) (hby : (n + m) * bytes ≤ 140737488355328) (hbase : base ≤ w.heap.size)
    (h : ∀ v' w', owns w' base e k v' (n + m) (fun j => if j < n then f j else g (j - n)) → w.grownBy w' v.ownBlock → wpList P ops Q rest (a.put o.dst v') w') : wpList P ops Q (o :: rest) a w := by
  obtain ⟨hu, i, z, hi, hz, h1, h2, h3⟩ := hT
  refine wpList_append_own _ hgd s x T ho base e i z 1 bytes hu hi hz h1 h2 h3 (by decide) v n (vals k n f).toList hs hown ad m c (vals k m g).toList hx (by simp [vals_size]) (reads_news hr) vals_one hn hby hbase ?_
  intro v' w' h' hg _
  refine h v' w' ?_ hg
  unfold owns
  rw [← vals_append]
  exact h'
end

set_option maxRecDepth 100000 in
theorem clone8_w (a : Option Addr) (len cap : Nat) (f : Nat → Int) (w : World) (hlen : len ≤ 1000000000) (hr : reads w a len .u8 f) :
    Calls Try.prog 73 #[.slice a len cap] w fun e w' => ∃ v, e = .returned v ∧ owns w' w.heap.size 5 .u8 v len f ∧ Below w.heap.size w w' := by
  have q1 : ∀ (w : World) (a : Option Addr) (n c n' c' : Nat), (binOp .eql 41 (.slice a n c) (.slice none n' c')).run Try.prog w = .ok (.bool a.isNone) w := fun w a n c n' c' => Lib.run_eql_slice_nil w _ _ a n c n' c' Try.underlying41
  have u1 : ∀ w, Sem.run Try.prog (underlying 41) w = .ok (TypeDesc.slice 5) w := run_underlying Try.underlying41
  cases a with
  | none =>
    obtain rfl : len = 0 := by
      rcases Nat.eq_zero_or_pos len with h | h
      · exact h
      · obtain ⟨_, _, e, _⟩ := hr h
        cases e
    clear hr
    go_enter Try.func73, Try.ntmps73
    go_wp2
    go_ret
    exact ⟨_, rfl, owns_nil _ _ _ _ _, Below.refl _ _⟩
  | some ad =>
    have HR := Lib.hid hr
    clear hr
    go_enter Try.func73, Try.ntmps73
    go_wp2_with (at_builtin; refine append_many elt8w rfl (.tmp 5) (.tmp 6) rfl (k := .u8) (f := f) (n := 0) rfl (World.ownsRow_made w #[] 0 (Nat.le_refl _) (Nat.zero_le _) rfl) rfl (reads_alloc _ HR.out) (by unfold maxLen; omega) (by omega) (by simp) ?_; intro v' w1 hown hgrow)
    go_ret
    have hown2 : owns w1 w.heap.size 5 .u8 v' len f := by
      have h1 := owns_ext (g := f) (fun j _ => by simp) hown
      rwa [Nat.zero_add] at h1
    refine ⟨_, rfl, hown2, ?_⟩
    exact ((Below.refl _ w).alloc (Nat.le_refl _) _).grown hgrow (by simp) (by intro k hk; have e : some w.heap.size = some k := hk; cases e; exact Nat.le_refl _)

abbrev encB : Int → Value := fun x => Value.int .u8 x

set_option maxHeartbeats 1600000 in
set_option maxRecDepth 100000 in
theorem reverse8_w (blk off cap : Nat) (d : Array Int) (w : World) (hH : Holds encB w blk off d) (hsz : d.size ≤ 1000000) :
    Calls Try.prog 77 #[.slice (some ⟨blk, off, none⟩) d.size cap] w fun e w' => e = .returned (.tuple #[]) ∧ ∃ n, w' = putRow encB (Sort.ahead w n) blk off d.reverse := by
  go_enter Try.func77, Try.ntmps77
  go_wp2
  go_loopg [2, 3] d.size (fun k s2 s3 wr => ∃ (i jn : Nat) (jz : Int) (dk : Array Int) (n : Nat), s2 = .int .i64 i ∧ s3 = .int .i64 jz ∧ ((i : Int) < jz → jz = jn ∧ jn < d.size) ∧ (¬ (i : Int) < jz → ¬ i < jn) ∧ jn - i ≤ k ∧
    dk.size = d.size ∧ wr = putRow encB (Sort.ahead w n) blk off dk ∧ reverseLoop i jn dk = reverseLoop 0 (d.size - 1) d)
  case atStart => exact ⟨0, d.size - 1, (d.size : Int) - 1, d, 0, rfl, rfl, fun h => ⟨by omega, by omega⟩, fun h => by omega, by omega, rfl, (putRow_self encB w blk off d hH).symm, rfl⟩
  case round =>
    obtain ⟨i, jn, jz, dk, n, rfl, rfl, h1, h2, hk, hds, hwr, heq⟩ := hrel
    by_cases hlt : (i : Int) < jz
    · obtain ⟨rfl, hjn⟩ := h1 hlt
      have hij : i < jn := by omega
      have hHk : Holds encB wr blk off dk := by rw [hwr]; exact holds_putRow encB _ blk off d dk (holds_ahead encB w n blk off d hH) hds
      obtain ⟨ci, fi⟩ := hHk i (by omega)
      obtain ⟨cj, fj⟩ := hHk jn (by omega)
      have A : Aside (wr = putRow encB (Sort.ahead w n) blk off dk) := hwr
      clear hwr hHk hH h1 h2
      go_wp2_with fail
      go_region
      go_wp2
      go_roundg (jn - 1 - (i + 1))
      case measure => omega
      case rel =>
        rw [reverseLoop, if_pos hij] at heq
        exact ⟨i + 1, jn - 1, (jn : Int) - 1, swp dk i jn, n + 1, by simp, rfl, fun h => ⟨by omega, by omega⟩, fun h => by omega, Nat.le_refl _, by rw [size_swp]; exact hds,
          swap_world encB (by omega) (by omega) A.out (by first | rfl | simp [encB, getElem!_pos, show jn < dk.size by omega]) (by first | rfl | simp [encB, getElem!_pos, show i < dk.size by omega]), heq⟩
    · have hnot := h2 hlt
      go_wp2
      go_end0
      refine ⟨rfl, n, ?_⟩
      rw [reverseLoop, if_neg hnot] at heq
      rw [← Lib.reverseLoop_reverse, ← heq]
end Go.Proofs.Ytohieonpegeokaa
