/- load.words at uint32: bytes' words of four bytes, the great end first. -/
import Derived.Test.YtfnncplokombgaaDoorRange
namespace Go.Proofs.YtfnncplokombgaaDoor
open Go.RowKit Go.Shelf Bt
attribute [local go_sem] Oper.semAt_some

theorem elt32w : EltT Tryd.prog 28 24 4 := elt_of (k := .u32) Tryd.underlying28 (by kernel_rfl)

/-- one more byte: x<<8 | c -/
theorem or_step32 (x c : Int) (hx : 0 ≤ x) (hx2 : x < 16777216) (hc : 0 ≤ c) (hc2 : c < 256) : bits .or .u32 (x * 256 % 4294967296) c = x * 256 + c := by
  obtain ⟨a, rfl⟩ := Int.eq_ofNat_of_zero_le hx
  obtain ⟨b, rfl⟩ := Int.eq_ofNat_of_zero_le hc
  have e : (a : Int) * 256 % 4294967296 = ((a * 256 : Nat) : Int) := by omega
  have h1 : a * 256 < 4294967296 := by omega
  have h2 : b < 256 := by omega
  show bits .or .u32 ((a : Int) * 256 % 4294967296) (b : Int) = (a : Int) * 256 + (b : Int)
  rw [e, u32_or_nat _ _ h1 (by omega), nat_join 8 _ _ (by simp) (by simpa using h2)]
  omega

set_option maxRecDepth 100000 in
set_option maxHeartbeats 4000000 in
theorem words32_w (a : Option Addr) (len cap sz : Nat) (hsz : sz = 4) (f : Nat → Int) (w : World) (hlen : len ≤ 1000000) (hcap : len ≤ cap) (hr : reads w a len .u8 f) (hf : ∀ j, j < len → 0 ≤ f j ∧ f j < 256) :
    Calls Tryd.prog 28 #[.slice a len cap, .int .i64 sz] w fun e w' => ∃ v, e = .returned v ∧ owns w' w.heap.size 24 .u32 v (len / sz) (fun j => beN f (j * sz) sz) ∧ Below w.heap.size w w' := by
  obtain ⟨b, off, ha⟩ : ∃ b off, 0 < len → a = some ⟨b, off, none⟩ ∧ ∀ j, j < len → w.cell? ⟨b, off + j, none⟩ = some (.int .u8 (f j)) := by
    rcases Nat.eq_zero_or_pos len with h | h
    · exact ⟨0, 0, fun h' => absurd h' (by omega)⟩
    · obtain ⟨b, off, h1, h2⟩ := hr h
      exact ⟨b, off, fun _ => ⟨h1, h2⟩⟩
  clear hr
  have HA := Lib.hid ha
  have HF := Lib.hid hf
  have HS := Lib.hid hsz
  clear ha hf
  obtain ⟨B, hB⟩ : ∃ B, Hid (B = w.heap.size) := ⟨_, Lib.hid rfl⟩
  refine (callsIn_wide (n := 6)).1 ?_
  refine callsIn_of_wp_marks Tryd.func28 rfl trivial ?_
  simp only [Tryd.ntmps28, List.size_toArray, List.length_cons, List.length_nil, Nat.reduceAdd, Nat.reduceSub, Array.replicate_succ, Array.replicate_zero, List.push_toArray, List.append_toArray, List.nil_append, List.cons_append]
  have h4 : 1 ≤ sz := by omega
  have h5 : sz ≤ 64 := by omega
  clear hsz
  gi_wp2_with (refine ⟨trivial, ?_⟩; gi_at_call 37; refine (callsIn_wide.2 (chunk_w a len cap sz h4 h5 _)).mono ?_; rintro e w' ⟨rfl, rfl⟩)
  -- THE LOOP
  have HA0 := Lib.hid (fun h : 0 < len => (HA.out h).1)
  obtain ⟨M, hM⟩ : ∃ M, Hid (M = (len - 1) / sz) := ⟨_, Lib.hid rfl⟩
  have bS := Boxed.new w 3 (.int .i64 sz)
  have bO := Boxed.new (w.alloc (.cells #[.int .i64 sz] 3)) 28 (.slice none 0 0)
  have bA := Boxed.new ((w.alloc (.cells #[.int .i64 sz] 3)).alloc (.cells #[.slice none 0 0] 28)) 22 (.slice a len cap)
  have bN := Boxed.new (((w.alloc (.cells #[.int .i64 sz] 3)).alloc (.cells #[.slice none 0 0] 28)).alloc (.cells #[.slice a len cap] 22)) 3 (.int .i64 sz)
  simp only [World.size_alloc] at bS bO bA bN
  have hBl : Below w.heap.size w ((((w.alloc (.cells #[.int .i64 sz] 3)).alloc (.cells #[.slice none 0 0] 28)).alloc (.cells #[.slice a len cap] 22)).alloc (.cells #[.int .i64 sz] 3)) := bl_alloc (bl_alloc (bl_alloc (bl_alloc (bl_refl w))))
  have hsz0 : ((((w.alloc (.cells #[.int .i64 sz] 3)).alloc (.cells #[.slice none 0 0] 28)).alloc (.cells #[.slice a len cap] 22)).alloc (.cells #[.int .i64 sz] 3)).heap.size = w.heap.size + 4 := by simp
  have hst := chunk_stops 5 (by omega) (w.heap.size + 1 + 1) (w.heap.size + 1 + 1 + 1) len cap sz a b off (fun h => HA0.out h) h4 h5 hlen hcap (Kpt (w.heap.size + 4) (w.heap.size + 1))
    (fun W W' h => ⟨h.cell _ (by omega) (by omega), h.cell _ (by omega) (by omega)⟩) ((((w.alloc (.cells #[.int .i64 sz] 3)).alloc (.cells #[.slice none 0 0] 28)).alloc (.cells #[.slice a len cap] 22)).alloc (.cells #[.int .i64 sz] 3)) (bA.alloc _).cell bN.cell
  rw [← hM.out] at hst
  obtain ⟨W0, hW0⟩ : ∃ W0, (((w.alloc (.cells #[.int .i64 sz] 3)).alloc (.cells #[.slice none 0 0] 28)).alloc (.cells #[.slice a len cap] 22)).alloc (.cells #[.int .i64 sz] 3) = W0 := ⟨_, rfl⟩
  have bS0 : Boxed W0 w.heap.size 3 (.int .i64 sz) := by rw [← hW0]; exact ((bS.alloc _).alloc _).alloc _
  have bO0 : Boxed W0 (w.heap.size + 1) 28 (.slice none 0 0) := by rw [← hW0]; exact (bO.alloc _).alloc _
  rw [hW0] at hBl hsz0 hst ⊢
  clear bS bO bA bN hW0
  refine wpIn_rangeFunc_ownG rfl (by omega) (gf := 39) (lb := #[.pointer (some ⟨w.heap.size + 1 + 1, 0, none⟩), .pointer (some ⟨w.heap.size + 1 + 1 + 1, 0, none⟩)]) rfl trivial (enters_of Tryd.func39 (by kernel_rfl) rfl)
    hst (fun h k => h.trans k) (Kpt.putObj (Nat.le_of_eq hsz0.symm)) (Below.refl _ _) (fun _ => rfl)
    (fun pre W => ((∃ v, Boxed W (w.heap.size + 1) 28 v ∧ W.ownsRow (w.heap.size + 4) 24 1 v pre.length (vals .u32 pre.length (fun j => beN f (min (pre.getD j 0) M * sz) sz)).toList ∧ (∀ x ∈ pre, (min x M + 1) * sz ≤ len)) ∧ (W.cell? ⟨w.heap.size, 0, none⟩ = some (.int .i64 sz))) ∧ Below w.heap.size W0 W)
    (fun c pre W => (c = .exit 0 ∧ ∃ ini x, pre = ini ++ [x] ∧ len < (min x M + 1) * sz ∧ (∃ v, Boxed W (w.heap.size + 1) 28 v ∧ W.ownsRow (w.heap.size + 4) 24 1 v ini.length (vals .u32 ini.length (fun j => beN f (min (ini.getD j 0) M * sz) sz)).toList ∧ (∀ x ∈ ini, (min x M + 1) * sz ≤ len))) ∧ Below w.heap.size W0 W)
    ?hI ?hIx ?h0 (fun x => { tmps := #[.slice a len cap, .int .i64 sz, undef, .pointer (some ⟨w.heap.size, 0, none⟩), .slice none 0 0, .pointer (some ⟨w.heap.size + 1, 0, none⟩), chunkV b off len sz (min x M), undef, undef, undef, .slice a len cap, .int .i64 sz, .func (.func 39) #[] #[.pointer (some ⟨w.heap.size + 1 + 1, 0, none⟩), .pointer (some ⟨w.heap.size + 1 + 1 + 1, 0, none⟩)], chunkV b off len sz (min x M), undef, undef, undef, undef, undef, undef, undef, undef, undef, undef, undef, undef, undef, undef, undef, undef, undef, undef, undef, undef, undef], defers := [] }) ?assign ?body ?done ?stop
  case hI =>
    exact OwnFrom.and (Own.from (fun s A B row hs hg hr => ⟨holdsRow_own (w.heap.size + 4) (w.heap.size + 1) 28 24 1 (fun pre : List Nat => pre.length) (fun pre => (vals .u32 pre.length (fun j => beN f (min (pre.getD j 0) M * sz) sz)).toList) (fun pre _ => ∀ x ∈ pre, (min x M + 1) * sz ≤ len) s A B row hs.1 hg hr, cell_kept hs.2 hg hr⟩) _) (ownFrom_below (by omega) (by omega))
  case hIx =>
    intro c
    refine OwnFrom.and (Own.from (fun s A B row hs hg hr => ?_) _) (ownFrom_below (by omega) (by omega))
    obtain ⟨hc, ini, x, e1, e2, hv⟩ := hs
    exact ⟨hc, ini, x, e1, e2, holdsRow_own (w.heap.size + 4) (w.heap.size + 1) 28 24 1 (fun pre : List Nat => pre.length) (fun pre => (vals .u32 pre.length (fun j => beN f (min (pre.getD j 0) M * sz) sz)).toList) (fun pre _ => ∀ x ∈ pre, (min x M + 1) * sz ≤ len) ini A B row hv hg hr⟩
  case h0 => exact ⟨⟨⟨_, bO0, World.ownsRow_nil _ _ _ _, by simp⟩, bS0.cell⟩, Below.refl _ _⟩
  case assign =>
    intro l x W K hK
    gi_wp2
    exact hK
  case body =>
    rintro l pre x W ⟨⟨⟨v, hv, hrow, hall⟩, hcs⟩, hbel⟩ hpre
    have HO := Lib.hid hrow
    have HL := Lib.hid hall
    have HB := Lib.hid hbel
    have HV := Lib.hid hv
    have HP : Hid (pre.length ≤ 1000000) := Lib.hid (by have := hM.out; have := Nat.div_le_self (len - 1) sz; omega)
    obtain ⟨q, hq⟩ : ∃ q, Hid (q = min x M * sz) := ⟨_, Lib.hid rfl⟩
    have e1 : (min x M + 1) * sz = q + sz := by rw [Nat.add_mul, Nat.one_mul, ← hq.out]
    have E1 := Lib.hid e1
    clear hrow hall hbel e1 hst
    by_cases hfull : q + sz ≤ len
    · have hcv : chunkV b off len sz (min x M) = .slice (some ⟨b, off + q, none⟩) sz sz := by
        unfold chunkV
        rw [← hq.out, Nat.min_eq_left (by omega)]
      rw [hcv]
      clear hcv
      have hlt2 : ¬ (sz : Int) < (sz : Int) := by omega
      have hcb := hv.cell
      clear hv
      gi_wp2
      gi_loop [7, 20] (fun u i => ∃ j : Nat, j ≤ sz ∧ i = .int .i64 j ∧ u = .int .u32 (beN f q j)) (fun _ i => sz - (intOf i).toNat)
      case atStart => exact ⟨0, by omega, rfl, rfl⟩
      case round =>
        obtain ⟨j, hj, rfl, rfl⟩ := hrel
        by_cases hlt : j < sz
        · have hcell : W.cell? ⟨b, off + q + j, none⟩ = some (.int .u8 (f (q + j))) := by
            have h0 := (HA.out (by omega)).2 (q + j) (by omega)
            rw [Nat.add_assoc]
            exact ((hBl.trans HB.out).cell (p := ⟨b, off + (q + j), none⟩) (cell_lt h0)).trans h0
          obtain ⟨c0, c1⟩ := HF.out (q + j) (by omega)
          obtain ⟨x0, x1⟩ := beN_bd f q j (fun i hi => HF.out (q + i) (by omega))
          have x2 : (256 : Int) ^ j ≤ 256 ^ 3 := pow256_le (by have := HS.out; omega)
          have hstep := or_step32 (beN f q j) (f (q + j)) x0 (by omega) c0 c1
          clear x1 x2
          gi_wp2
          go_round
          case rel => exact ⟨j + 1, by omega, by go_num, rfl⟩
          case measure => simp [intOf]; omega
        · obtain rfl : sz = j := by omega
          gi_wp2_with (gi_at_builtin; refine append_one_in elt32w rfl (.tmp 30) (.tmp 32) rfl rfl HO.out rfl rfl (by have := HP.out; unfold maxLen; omega) (by have := HP.out; omega) (by have := HB.out.size; omega) ?_; intro g1 cap1 w1 ho1 hg1; have BA := Lib.hid (box_appended (n₀ := w.heap.size) (by omega) (by omega) (by have := HB.out.size; omega) HV.out (by decide) HO.out ho1 hg1); have hcb1 := BA.out.1.cell; have hfb1 := BA.out.1.frozen; clear ho1 hg1)
          obtain ⟨_, g2, g3, g4, g5, g6⟩ := BA.out
          refine ⟨g4.from _, g6, ⟨⟨_, g2, ?_, ?_⟩, ?_⟩, HB.out.trans g5⟩
          · rw [List.length_append]
            refine owns_ext (fun i hi => ?_) g3
            by_cases h1 : i < pre.length
            · simp only [if_pos h1]
              exact (congrArg (fun z => beN f (min z M * sz) sz) (getD_append_lt pre x h1)).symm
            · obtain rfl : i = pre.length := by have h2 : i < pre.length + 1 := hi; omega
              rw [if_neg h1]
              exact ((congrArg (fun z => beN f (min z M * sz) sz) (getD_append_at pre x)).trans (by show beN f (min x M * sz) sz = _; rw [← hq.out])).symm
          · intro y hy
            rcases List.mem_append.1 hy with h1 | h1
            · exact HL.out y h1
            · obtain rfl : y = x := by simpa using h1
              rw [E1.out]
              exact hfull
          · exact (g6.cell _ (by omega) (by omega)).trans hcs
    · obtain ⟨m, cp, hcv, hlt2⟩ : ∃ m cp, chunkV b off len sz (min x M) = .slice (some ⟨b, off + q, none⟩) m cp ∧ m < sz := by
        unfold chunkV
        rw [← hq.out]
        exact ⟨_, _, rfl, by omega⟩
      rw [hcv]
      clear hcv
      have hlt3 : (m : Int) < (sz : Int) := by omega
      have hcb := hv.cell
      clear hv
      gi_wp2
      exact ⟨KeepsFrom.refl _ _, ⟨rfl, pre, x, rfl, by rw [E1.out]; omega, v, HV.out, HO.out, HL.out⟩, HB.out⟩
  case done =>
    rintro D ys W hD rfl ⟨⟨⟨v, hv, hrow, hall⟩, _⟩, hbel⟩ hK
    obtain ⟨q1, q2⟩ := chunks_full h4 (by rw [← hM.out]; exact hall)
    rw [List.length_range, q1] at hrow
    have hown := owns_base (base' := w.heap.size) (by omega) (owns_ext (w := W) (g := fun j => beN f (j * sz) sz) (fun j hj => by rw [getD_range hj, hM.out, q2 j hj]) hrow)
    have hc := hv.cell
    have hbl := hBl.trans hbel
    clear hall q2
    gi_wp2
    refine ⟨by simp, .inl ⟨_, _, rfl, run_takeDeferred hK, ?_⟩⟩
    exact ⟨_, results_tmp rfl _ _ _, v, rfl, ownsRow_putObj hown _ hK rfl, hbl.trans (belowK_b (w := w) (Nat.le_refl _) W D _ _ (by omega) hK rfl rfl)⟩
  case stop =>
    rintro D c pre W hD ⟨k, hk, rfl⟩ ⟨⟨rfl, ini, x, e1, e2, v, hv, hrow, hall⟩, hbel⟩ hK
    obtain ⟨rfl, rfl, q1, q2⟩ := chunks_short h4 hk e1 (by rw [← hM.out]; exact e2)
    rw [List.length_range, ← q1] at hrow
    have hown := owns_base (base' := w.heap.size) (by omega) (owns_ext (w := W) (g := fun j => beN f (j * sz) sz) (fun j hj => by rw [getD_range (by omega), hM.out, q2 j (by omega)]) hrow)
    have hc := hv.cell
    have hbl := hBl.trans hbel
    clear hall q2
    gi_wp2
    refine ⟨by simp, .inl ⟨_, _, rfl, run_takeDeferred hK, ?_⟩⟩
    exact ⟨_, results_tmp rfl _ _ _, v, rfl, ownsRow_putObj hown _ hK rfl, hbl.trans (belowK_b (w := w) (Nat.le_refl _) W D _ _ (by omega) hK rfl rfl)⟩
end Go.Proofs.YtfnncplokombgaaDoor
