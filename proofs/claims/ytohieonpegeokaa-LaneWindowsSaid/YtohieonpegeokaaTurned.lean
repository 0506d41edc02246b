/- load.turned: bytes, so many by so many the other way round. -/
import Derived.Test.YtohieonpegeokaaOwnSet
import Derived.Test.YtohieonpegeokaaRange
namespace Go.Proofs.Ytohieonpegeokaa
open Go.RowKit Go.Shelf Go.Lib Go.Sort
attribute [local go_sem] Oper.semAt_some

theorem owns_kept {X Y : World} {row : Option Nat} {base : Nat} {e : TypeId} {k : IntKind} {v : Value} {n : Nat} {f : Nat → Int} (hr : owns X base e k v n f) (hg : X.grownBy Y row) (hrow : ∀ r, row = some r → ∃ o : Obj, X.heap[r]? = some o ∧ o.isCells = false) : owns Y base e k v n f := by
  refine World.ownsRow.kept hr hg ?_
  rcases hr.2 with ⟨rfl, _⟩ | ⟨g, cap, cur, rfl, _, hgb, _⟩
  · exact .inl rfl
  · refine .inr fun e' => ?_
    obtain ⟨o, ho, hc⟩ := hrow g (by simpa [Value.ownBlock] using e'.symm)
    rw [hgb] at ho; cases ho; cases hc

set_option maxRecDepth 100000 in
set_option maxHeartbeats 4000000 in
theorem turned_w (a : Option Addr) (len cap sz : Nat) (h4 : 1 ≤ sz) (h5 : sz ≤ 64) (f : Nat → Int) (w : World) (hlen : len ≤ 1000000) (hr : reads w a len .u8 f) :
    Calls Try.prog 70 #[.slice a len cap, .int .i64 sz] w fun e w' => ∃ v, e = .returned v ∧ owns w' w.heap.size 5 .u8 v len (turnI f sz len) ∧ Below w.heap.size w w' := by
  have HR := Lib.hid hr
  clear hr
  refine (callsIn_wide (n := 6)).1 ?_
  refine callsIn_of_wp_marks Try.func70 rfl trivial ?_
  simp only [Try.ntmps70, List.size_toArray, List.length_cons, List.length_nil, Nat.reduceAdd, Nat.reduceSub, Array.replicate_succ, Array.replicate_zero, List.push_toArray, List.append_toArray, List.nil_append, List.cons_append]
  have bS := Boxed.new w 3 (.int .i64 sz)
  gi_wp2_with (first | (refine ⟨trivial, ?_⟩; gi_at_call 73; refine (callsIn_wide.2 (clone8_w a len cap f _ (by omega) (reads_alloc _ HR.out))).mono ?_; rintro e w1 ⟨v, rfl, ho1, hb1⟩; obtain ⟨av, c, rfl, hlc, hcm, hrd⟩ := owns_reads ho1; clear hrd; have hcS := (hb1.cell (p := ⟨w.heap.size, 0, none⟩) (by simp)).trans bS.cell) | (refine ⟨trivial, ?_⟩; gi_at_call 76; refine (callsIn_wide.2 (chunk_w av len c sz h4 h5 _)).mono ?_; rintro e w' ⟨rfl, rfl⟩))
  have hs1 : w.heap.size + 1 ≤ w1.heap.size := by have := hb1.size; simpa using this
  obtain ⟨g, hgv, hg1, hg2, hg3⟩ : ∃ g, (0 < len → av = some ⟨g, 0, none⟩ ∧ w.heap.size + 1 ≤ g ∧ g < w1.heap.size) ∧ g ≠ w.heap.size ∧ g ≠ w1.heap.size ∧ g ≠ w1.heap.size + 1 := by
    rcases Nat.eq_zero_or_pos len with h | h
    · exact ⟨w1.heap.size + 2, fun h' => absurd h' (by omega), by omega, by omega, by omega⟩
    · obtain ⟨g, cap', e, _, hb, hl, _⟩ := owns_at ho1 h
      injection e with e _ _
      have hb' : w.heap.size + 1 ≤ g := by simpa using hb
      exact ⟨g, fun _ => ⟨e, hb', hl⟩, by omega, by omega, by omega⟩
  obtain ⟨M, hM⟩ : ∃ M, Hid (M = (len - 1) / sz) := ⟨_, Lib.hid rfl⟩
  have bA := Boxed.new w1 41 (.slice av len c)
  have bN := Boxed.new (w1.alloc (.cells #[.slice av len c] 41)) 3 (.int .i64 sz)
  simp only [World.size_alloc] at bN
  have hBl : RowKit.Below w.heap.size w ((w1.alloc (.cells #[.slice av len c] 41)).alloc (.cells #[.int .i64 sz] 3)) := bl_alloc (bl_alloc (bl_call (bl_alloc (bl_refl w)) hb1))
  have hsz0 : ((w1.alloc (.cells #[.slice av len c] 41)).alloc (.cells #[.int .i64 sz] 3)).heap.size = w1.heap.size + 2 := by simp
  have HG := Lib.hid hgv
  have hst := chunk_stops 5 (by omega) w1.heap.size (w1.heap.size + 1) len c sz av g 0 (fun h => (HG.out h).1) h4 h5 hlen hlc (Kpt (w1.heap.size + 2) g)
    (fun W W' h => ⟨h.cell _ (by omega) (by omega), h.cell _ (by omega) (by omega)⟩) ((w1.alloc (.cells #[.slice av len c] 41)).alloc (.cells #[.int .i64 sz] 3)) (bA.alloc _).cell bN.cell
  rw [← hM.out] at hst
  have hcS0 : ((w1.alloc (.cells #[.slice av len c] 41)).alloc (.cells #[.int .i64 sz] 3)).cell? ⟨w.heap.size, 0, none⟩ = some (.int .i64 sz) := by
    exact Lib.cell?_alloc_some _ (Lib.cell?_alloc_some _ hcS)
  have ho0 : owns ((w1.alloc (.cells #[.slice av len c] 41)).alloc (.cells #[.int .i64 sz] 3)) (w.heap.size + 1) 5 .u8 (.slice av len c) len f := by
    have h := (ho1.alloc (.cells #[.slice av len c] 41)).alloc (.cells #[.int .i64 sz] 3)
    rw [World.size_alloc] at h
    exact h
  obtain ⟨W0, hW0⟩ : ∃ W0, (w1.alloc (.cells #[.slice av len c] 41)).alloc (.cells #[.int .i64 sz] 3) = W0 := ⟨_, rfl⟩
  rw [hW0] at hBl hsz0 hst hcS0 ho0 ⊢
  clear bS bA bN hW0 ho1 hb1 hcS hgv
  refine wpIn_rangeFunc_ownG rfl (by omega) (gf := 78) (lb := #[.pointer (some ⟨w1.heap.size, 0, none⟩), .pointer (some ⟨w1.heap.size + 1, 0, none⟩)]) rfl trivial (enters_of Try.func78 (by kernel_rfl) rfl)
    hst (fun h k => h.trans k) (Kpt.putObj (Nat.le_of_eq hsz0.symm)) (Below.refl _ _) (fun _ => rfl)
    (fun pre W => ((owns W (w.heap.size + 1) 5 .u8 (.slice av len c) len (foldT f sz len M pre) ∧ W.cell? ⟨w.heap.size, 0, none⟩ = some (.int .i64 sz)) ∧ Below w.heap.size W0 W))
    (fun _ _ _ => False)
    ?hI (fun _ _ _ _ _ hs _ _ => hs) ?h0 (fun x => { tmps := #[.slice a len cap, .int .i64 sz, undef, .pointer (some ⟨w.heap.size, 0, none⟩), .slice none 0 0, .slice av len c, chunkV g 0 len sz (min x M), .slice a len cap, .slice av len c, .slice av len c, .int .i64 sz, .func (.func 78) #[] #[.pointer (some ⟨w1.heap.size, 0, none⟩), .pointer (some ⟨w1.heap.size + 1, 0, none⟩)], chunkV g 0 len sz (min x M), undef, undef, undef, undef, undef, undef, undef], defers := [] }) ?assign ?body ?done ?stop
  case hI =>
    exact OwnFrom.and (Own.from (fun s A B row hs hg hr => ⟨owns_kept hs.1 hg hr, Go.cell_kept hs.2 hg hr⟩) _) (ownFrom_below (by omega) (by omega))
  case h0 => exact ⟨⟨ho0, hcS0⟩, Below.refl _ _⟩
  case assign =>
    intro l x W K hK
    gi_wp2
    exact hK
  case body =>
    rintro l pre x W ⟨⟨hrow, hcs⟩, hbel⟩ hpre
    have HO := Lib.hid hrow
    have HB := Lib.hid hbel
    obtain ⟨q, hq⟩ : ∃ q, Hid (q = min x M * sz) := ⟨_, Lib.hid rfl⟩
    clear hrow hbel hst
    by_cases hfull : q + sz ≤ len
    · have hcv : chunkV g 0 len sz (min x M) = .slice (some ⟨g, q, none⟩) sz sz := by
        unfold chunkV
        rw [← hq.out, Nat.min_eq_left (by omega), Nat.zero_add]
      rw [hcv]
      clear hcv
      obtain ⟨e1, e2, e3⟩ := HG.out (by omega)
      subst e1
      obtain ⟨g', c', e, hcc, _, _, hcells⟩ := owns_at HO.out (by omega)
      cases e
      have hH : Holds encB W g q (arrN (foldT f sz len M pre) q sz) := holds_arrN (fun j hj => hcells (q + j) (by omega))
      have hRv := reverse8_w g q sz (arrN (foldT f sz len M pre) q sz) W hH (by rw [size_arrN]; omega)
      rw [size_arrN] at hRv
      have HRV := Lib.hid hRv
      clear hRv hH hcells
      gi_wp2_with (refine ⟨trivial, ?_⟩; gi_at_call 77; refine (CallsIn.inRound l (callsIn_wide.2 HRV.out)).mono ?_; rintro e w' ⟨rfl, n, rfl⟩)
      have hgr := grownBy_putRow W g q n (arrN (foldT f sz len M pre) q sz).reverse
      have hBg := below_own (n₀ := w.heap.size) hgr (by omega) (by have := HB.out.size; omega)
      have hKp : Kpt (w1.heap.size + 2) g W (putRow encB (Sort.ahead W n) g q (arrN (foldT f sz len M pre) q sz).reverse) := fun k hk hne => hgr.block k (by have := HB.out.size; omega) (fun e => hne (by cases e; rfl))
      refine ⟨KeepsFrom.of_grownBy hgr (fun j e => by cases e; omega), hKp, ⟨?_, (hKp.cell _ (by omega) (by omega)).trans hcs⟩, HB.out.trans hBg⟩
      rw [foldT_snoc]
      refine owns_ext (fun j hj => ?_) (owns_putRow HO.out q n _)
      have hss : (arrN (foldT f sz len M pre) q sz).reverse.size = sz := by rw [Array.size_reverse, size_arrN]
      rw [hss]
      unfold stepT
      rw [← hq.out, if_pos hfull]
      unfold revAt
      by_cases h : q ≤ j ∧ j < q + sz
      · rw [if_pos h, if_pos h, arrN_rev _ _ _ (by omega)]
      · rw [if_neg h, if_neg h]
    · obtain ⟨m, hcv, hlt2⟩ : ∃ m, chunkV g 0 len sz (min x M) = .slice (some ⟨g, q, none⟩) m m ∧ m < sz := by
        unfold chunkV
        rw [← hq.out, Nat.zero_add]
        exact ⟨_, rfl, by omega⟩
      rw [hcv]
      clear hcv
      have hlt3 : ¬ (m : Int) = (sz : Int) := by omega
      gi_wp2
      refine ⟨KeepsFrom.refl _ _, Kpt.refl _ _ _, ⟨?_, hcs⟩, HB.out⟩
      rw [foldT_snoc]
      unfold stepT
      rw [← hq.out, if_neg hfull]
      exact HO.out
  case done =>
    rintro D ys W hD rfl ⟨⟨hrow, _⟩, hbel⟩ hK
    have hbl := hBl.trans hbel
    gi_wp2
    refine ⟨by simp, .inl ⟨_, _, rfl, run_takeDeferred hK, ?_⟩⟩
    refine ⟨_, results_tmp rfl _ _ _, _, rfl, ?_, hbl.trans (belowK_b (w := w) (Nat.le_refl _) W D _ _ (by omega) hK rfl rfl)⟩
    have h := owns_base (base' := w.heap.size) (by omega) hrow
    refine ownsRow_putObj (owns_ext (fun j hj => ?_) h) _ hK rfl
    have h6 : (len + sz - 1) / sz * sz < len + sz := by
      have := Nat.div_mul_le_self (len + sz - 1) sz
      omega
    rw [hM.out, foldT_range f sz len h4 _ h6, if_pos]
    have h7 := Nat.div_add_mod (len + sz - 1) sz
    have h8 := Nat.mod_lt (len + sz - 1) (show 0 < sz by omega)
    rw [Nat.mul_comm] at h7
    exact (Nat.div_lt_iff_lt_mul (by omega)).2 (by omega)
  case stop =>
    rintro D c pre W _ _ h _
    exact h.elim
end Go.Proofs.Ytohieonpegeokaa
