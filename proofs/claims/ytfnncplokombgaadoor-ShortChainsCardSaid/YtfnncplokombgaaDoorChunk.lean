/- slices.Chunk at []byte: its closure's contract for whatever loop body. -/
import Derived.Test.YtfnncplokombgaaDoorSlices
import Derived.Test.YtfnncplokombgaaDoorProg
import Derived.RangeFuncBox
import Derived.RangeFuncLeaves
import Derived.Shelf.Abstract
import Derived.OwnWalkIn
import Derived.TacticsInMore
import Derived.LoopNIn
import Derived.LoopIn
namespace Go.Proofs.YtfnncplokombgaaDoor
open Go.RowKit Go.Shelf
attribute [local go_sem] Oper.semAt_some

theorem chunk_w (a : Option Addr) (len cap : Nat) (sz : Nat) (h1 : 1 ≤ sz) (h2 : sz ≤ 64) (w : World) :
    Calls Tryd.prog 37 #[.slice a len cap, .int .i64 sz] w fun e w' => e = .returned (.func (.func 39) #[] #[.pointer (some ⟨w.heap.size, 0, none⟩), .pointer (some ⟨w.heap.size + 1, 0, none⟩)]) ∧
      (w.alloc (.cells #[.slice a len cap] 22)).alloc (.cells #[.int .i64 sz] 3) = w' := by
  go_enter Tryd.func37, Tryd.ntmps37
  go_wp2
  go_ret
  exact ⟨rfl, rfl⟩

/-- what comes at round k: the k-th piece -/
def chunkV (b off len sz k : Nat) : Value := .slice (some ⟨b, off + k * sz, none⟩) (min sz (len - k * sz)) (min sz (len - k * sz))

set_option maxRecDepth 100000 in
set_option maxHeartbeats 2000000 in
theorem chunk1_in (n : Nat) (hn : 1 ≤ n) (l Bs Bn b off len cap sz : Nat) (h1 : 1 ≤ sz) (h2 : sz ≤ 64) (hlen : len ≤ 1000000) (hcap : len ≤ cap)
    (Kp : World → World → Prop) (hKp : ∀ W W', Kp W W' → W'.cell? ⟨Bs, 0, none⟩ = W.cell? ⟨Bs, 0, none⟩ ∧ W'.cell? ⟨Bn, 0, none⟩ = W.cell? ⟨Bn, 0, none⟩)
    (J Jx : List Nat → World → Prop) (hJd : ∀ pre W, J pre W → J pre W.drew)
    (hY : ∀ k W, J (List.range k) W → k * sz < len → YieldAt Fence.wide (n - 1) Tryd.prog l #[chunkV b off len sz k] W fun e W' =>
      (e = .returned (.bool true) ∧ J (List.range (k + 1)) W' ∧ Kp W W') ∨ (e = .returned (.bool false) ∧ Jx (List.range (k + 1)) W'))
    (W : World) (hs : W.cell? ⟨Bs, 0, none⟩ = some (.slice (some ⟨b, off, none⟩) len cap)) (hz : W.cell? ⟨Bn, 0, none⟩ = some (.int .i64 sz)) (h0 : J [] W) :
    CallsIn Fence.wide n Tryd.prog 39 #[.func (.yield l) #[] #[], .pointer (some ⟨Bs, 0, none⟩), .pointer (some ⟨Bn, 0, none⟩)] W fun e W' => (∃ v, e = .returned v) ∧
      ((∃ k, len ≤ k * sz ∧ k * sz < len + sz ∧ J (List.range k) W') ∨ (∃ k, k * sz < len ∧ Jx (List.range (k + 1)) W')) := by
  refine callsIn_of_wp Tryd.func39 rfl trivial ?_ rfl
  simp only [Tryd.ntmps39, List.size_toArray, List.length_cons, List.length_nil, Nat.reduceAdd, Nat.reduceSub, Array.replicate_succ, Array.replicate_zero, List.push_toArray, List.append_toArray, List.nil_append, List.cons_append]
  gi_wp2
  gi_loopw [4] (fun i wr => ∃ k : Nat, k * sz < len + sz ∧ i = .int .i64 ((k * sz : Nat) : Int) ∧ J (List.range k) wr ∧ wr.cell? ⟨Bs, 0, none⟩ = some (.slice (some ⟨b, off, none⟩) len cap) ∧ wr.cell? ⟨Bn, 0, none⟩ = some (.int .i64 sz))
    (fun i _ => len + sz - (intOf i).toNat)
  case atStart => exact ⟨0, by omega, by simp, h0, hs, hz⟩
  case round =>
    obtain ⟨k, hk, rfl, hJ, hs1, hz1⟩ := hrel
    clear hs hz h0
    have HY := Lib.hid hY
    have HK := Lib.hid hKp
    have HD := Lib.hid hJd
    clear hY hKp hJd
    obtain ⟨i, hi⟩ : ∃ i : Nat, Hid (i = k * sz) := ⟨k * sz, Lib.hid rfl⟩
    rw [← hi.out] at hk ⊢
    by_cases hlt : i < len
    · obtain ⟨r, rfl⟩ : ∃ r, len = i + r := ⟨len - i, by omega⟩
      have hr : 0 < r := by omega
      have hir : (i : Int) ≤ (i : Int) + (r : Int) := by omega
      have hci : ¬ cap = i := by omega
      by_cases hfull : sz ≤ r
      · have hlt2 : ¬ r < sz := by omega
        have hv : chunkV b off (i + r) sz k = .slice (some ⟨b, off + i, none⟩) sz sz := by
          have e : min sz (i + r - i) = sz := by omega
          unfold chunkV
          rw [← hi.out, e]
        obtain ⟨fn, tmps, assign, body, hy, hR⟩ := HY.out k wr.drew (HD.out _ _ hJ) (by rw [← hi.out]; omega)
        rw [hv] at hy
        have HR := Lib.hid hR
        clear hR hv
        gi_wp2
        refine wpIn_wide.2 (region_still (by kernel_rfl) (by kernel_rfl) rfl ?_)
        iterate 7 still_step
        refine wpStill_nil ?_
        gi_wp2
        refine HR.out.mono ?_
        rintro e W3 (⟨rfl, hJ3, hk3⟩ | ⟨rfl, hJx3⟩)
        · obtain ⟨g1, g2⟩ := HK.out _ _ hk3
          have hs3 : W3.cell? ⟨Bs, 0, none⟩ = some (.slice (some ⟨b, off, none⟩) (i + r) cap) := g1.trans hs1
          have hz3 : W3.cell? ⟨Bn, 0, none⟩ = some (.int .i64 sz) := g2.trans hz1
          clear g1 g2 hk3 hy
          gi_wp2
          go_roundw
          case rel =>
            have e : (k + 1) * sz = i + sz := by rw [Nat.add_mul, ← hi.out, Nat.one_mul]
            refine ⟨k + 1, by rw [e]; omega, by rw [e]; go_num, hJ3, hs3, hz3⟩
          case measure => simp [intOf]; omega
        · gi_wp2
          refine bodyPost_ret (results_none rfl _ _ _) rfl ?_
          exact ⟨⟨_, rfl⟩, .inr ⟨k, by rw [← hi.out]; omega, hJx3⟩⟩
      · have hlt2 : r < sz := by omega
        have hv : chunkV b off (i + r) sz k = .slice (some ⟨b, off + i, none⟩) r r := by
          have e : min sz (i + r - i) = r := by omega
          unfold chunkV
          rw [← hi.out, e]
        obtain ⟨fn, tmps, assign, body, hy, hR⟩ := HY.out k wr.drew (HD.out _ _ hJ) (by rw [← hi.out]; omega)
        rw [hv] at hy
        have HR := Lib.hid hR
        clear hR hv
        gi_wp2
        refine wpIn_wide.2 (region_still (by kernel_rfl) (by kernel_rfl) rfl ?_)
        iterate 7 still_step
        refine wpStill_nil ?_
        gi_wp2
        refine HR.out.mono ?_
        rintro e W3 (⟨rfl, hJ3, hk3⟩ | ⟨rfl, hJx3⟩)
        · obtain ⟨g1, g2⟩ := HK.out _ _ hk3
          have hs3 : W3.cell? ⟨Bs, 0, none⟩ = some (.slice (some ⟨b, off, none⟩) (i + r) cap) := g1.trans hs1
          have hz3 : W3.cell? ⟨Bn, 0, none⟩ = some (.int .i64 sz) := g2.trans hz1
          clear g1 g2 hk3 hy
          gi_wp2
          go_roundw
          case rel =>
            have e : (k + 1) * sz = i + sz := by rw [Nat.add_mul, ← hi.out, Nat.one_mul]
            refine ⟨k + 1, by rw [e]; omega, by rw [e]; go_num, hJ3, hs3, hz3⟩
          case measure => simp [intOf]; omega
        · gi_wp2
          refine bodyPost_ret (results_none rfl _ _ _) rfl ?_
          exact ⟨⟨_, rfl⟩, .inr ⟨k, by rw [← hi.out]; omega, hJx3⟩⟩
    · gi_wp2
      go_end0
      exact ⟨⟨_, rfl⟩, .inl ⟨k, by rw [← hi.out]; omega, by rw [← hi.out]; omega, hJ⟩⟩

set_option maxRecDepth 100000 in
theorem chunk0_in (n : Nat) (l Bs Bn cap : Nat) (a : Option Addr) (J : List Nat → World → Prop) (W : World) (hs : W.cell? ⟨Bs, 0, none⟩ = some (.slice a 0 cap)) (h0 : J [] W) :
    CallsIn Fence.wide n Tryd.prog 39 #[.func (.yield l) #[] #[], .pointer (some ⟨Bs, 0, none⟩), .pointer (some ⟨Bn, 0, none⟩)] W fun e W' => (∃ v, e = .returned v) ∧ J [] W' := by
  refine callsIn_of_wp Tryd.func39 rfl trivial ?_ rfl
  simp only [Tryd.ntmps39, List.size_toArray, List.length_cons, List.length_nil, Nat.reduceAdd, Nat.reduceSub, Array.replicate_succ, Array.replicate_zero, List.push_toArray, List.append_toArray, List.nil_append, List.cons_append]
  gi_wp2
  gi_loopw [4] (fun i wr => i = .int .i64 0 ∧ J [] wr ∧ wr.cell? ⟨Bs, 0, none⟩ = some (.slice a 0 cap)) (fun _ _ => 0)
  case atStart => exact ⟨rfl, h0, hs⟩
  case round =>
    obtain ⟨rfl, hJ, hs1⟩ := hrel
    gi_wp2
    go_end0
    exact ⟨⟨_, rfl⟩, hJ⟩

/-- **the closure of slices.Chunk hands out the pieces in their order, to whatever body** -/
theorem chunk_stops (n : Nat) (hn : 1 ≤ n) (Bs Bn len cap sz : Nat) (a : Option Addr) (b off : Nat) (ha : 0 < len → a = some ⟨b, off, none⟩) (h1 : 1 ≤ sz) (h2 : sz ≤ 64) (hlen : len ≤ 1000000) (hcap : len ≤ cap)
    (Kp : World → World → Prop) (hKp : ∀ W W', Kp W W' → W'.cell? ⟨Bs, 0, none⟩ = W.cell? ⟨Bs, 0, none⟩ ∧ W'.cell? ⟨Bn, 0, none⟩ = W.cell? ⟨Bn, 0, none⟩)
    (w : World) (hs : w.cell? ⟨Bs, 0, none⟩ = some (.slice a len cap)) (hz : w.cell? ⟨Bn, 0, none⟩ = some (.int .i64 sz)) :
    SeqStopsK Fence.wide n Tryd.prog 39 #[.pointer (some ⟨Bs, 0, none⟩), .pointer (some ⟨Bn, 0, none⟩)] (fun k : Nat => #[chunkV b off len sz (min k ((len - 1) / sz))]) Kp
      (fun ys => ys = List.range ((len + sz - 1) / sz)) (fun pre => ∃ k, k * sz < len ∧ pre = List.range (k + 1)) ((len - 1) / sz + 1) w := by
  intro l J Jx W hW hJ _ hY h0
  have hs' : W.cell? ⟨Bs, 0, none⟩ = some (.slice a len cap) := (hW.cell (p := ⟨Bs, 0, none⟩) (cell_lt hs)).trans hs
  have hz' : W.cell? ⟨Bn, 0, none⟩ = some (.int .i64 sz) := (hW.cell (p := ⟨Bn, 0, none⟩) (cell_lt hz)).trans hz
  rcases Nat.eq_zero_or_pos len with hl | hl
  · subst hl
    refine (chunk0_in n l Bs Bn cap a J W hs' h0).mono ?_
    rintro e W' ⟨he, hj⟩
    refine ⟨he, .inl ⟨[], ?_, hj⟩⟩
    rw [show (0 + sz - 1) / sz = 0 from Nat.div_eq_of_lt (by omega)]
    rfl
  · rw [ha hl] at hs'
    refine (chunk1_in n hn l Bs Bn b off len cap sz h1 h2 hlen hcap Kp hKp J Jx (fun pre W hp => hJ pre W _ none hp ⟨rfl, rfl, rfl, Nat.le_refl _, fun _ _ _ => rfl⟩ (fun r hr => by cases hr)) ?_ W hs' hz' h0).mono ?_
    · intro k W1 hk hlt
      have hk1 : k ≤ (len - 1) / sz := (Nat.le_div_iff_mul_le (by omega)).2 (by omega)
      have := hY (List.range k) k W1 hk (by simp; omega)
      dsimp only at this
      rw [Nat.min_eq_left hk1, ← List.range_succ] at this
      exact this
    · rintro e W' ⟨he, ⟨k, h3, h4, hj⟩ | ⟨k, h3, hj⟩⟩
      · refine ⟨he, .inl ⟨_, ?_, hj⟩⟩
        congr 1
        have e1 : k ≤ (len + sz - 1) / sz := (Nat.le_div_iff_mul_le (by omega)).2 (by omega)
        have e2 : (len + sz - 1) / sz < k + 1 := (Nat.div_lt_iff_lt_mul (by omega)).2 (by rw [Nat.add_mul, Nat.one_mul]; omega)
        omega
      · exact ⟨he, .inr ⟨_, ⟨k, h3, rfl⟩, hj⟩⟩
end Go.Proofs.YtfnncplokombgaaDoor
