/- Part 15 of 20 of what the proof of this law needs. Merged by merge.py out of: CoR CoS. -/
import Derived.Test.YtfnncplokombgaaDoorShortChainsAll14
/- What a call does in company, out of what it does alone (43): short.Blocks, from its beginning. -/
namespace Go.Proofs.YtfnncplokombgaaDoor
open Go Go.Conc

theorem alloc_get (w : World) (o : Obj) : (w.alloc o).heap[w.heap.size]? = some o := heap_alloc_new w o
theorem alloc_size (w : World) (o : Obj) : (w.alloc o).heap.size = w.heap.size + 1 := by simp
theorem RowC.new (w : World) (c : Array Value) (t : TypeId) : RowC (w.alloc (.cells c t)) w.heap.size c t := by
  refine ⟨⟨(0, 0), alloc_get w _⟩, fun off => ?_⟩
  unfold World.frozen?
  dsimp only
  rw [alloc_get]
  simp
theorem RowC.lt {w : World} {b : Nat} {c : Array Value} {t : TypeId} (h : RowC w b c t) : b < w.heap.size := by obtain ⟨⟨fr, h⟩, _⟩ := h; exact (Array.getElem?_eq_some_iff.1 h).1
theorem RowC.kept {w w1 : World} {b : Nat} {c : Array Value} {t : TypeId} (h : RowC w b c t) (k : Kept w w1) : RowC w1 b c t := h.of_eq (k.keep b h.lt)
theorem Tame.kept {w w1 : World} {b : Nat} (h : Tame w b) (k : Kept w w1) : Tame w1 b := by
  obtain ⟨c, e, fr, hc⟩ := h
  exact ⟨c, e, fr, by rw [k.keep b (Array.getElem?_eq_some_iff.1 hc).1]; exact hc⟩
theorem Tame.lt {w : World} {b : Nat} (h : Tame w b) : b < w.heap.size := by obtain ⟨c, e, fr, hc⟩ := h; exact (Array.getElem?_eq_some_iff.1 hc).1
theorem Kept.cell {w w1 : World} (k : Kept w w1) {a : Addr} {v : Value} (h : w.cell? a = some v) : w1.cell? a = some v := by
  rw [← h]
  exact heap_cell (k.keep _ (World.block_lt_of_cell? w a h))
theorem Kept.tabs {w w1 : World} (k : Kept w w1) (h : Tabs32 w) : Tabs32 w1 := ⟨fun i hi => k.cell (h.1 i hi), fun i hi => k.cell (h.2 i hi)⟩
/-- what a call finds -/
structure Ground (w : World) : Prop where
  tabs : Tabs32 w
  tab : Tab80 w
  tame : ∀ g, niceG.contains g = true → Tame w g
theorem Ground.kept {w w1 : World} (k : Kept w w1) (h : Ground w) : Ground w1 := ⟨k.tabs h.tabs, fun j hj => k.cell (h.tab j hj), fun g hg => (h.tame g hg).kept k⟩
section
variable {vb kb rb c oc bc ib off len cap n : Nat} {w0 w w1 w3 : World} {Post : Value → World → Prop} {v : Nat → Nat} {f : Nat → Int}
/-- the go statement -/
theorem go_runs (hv : ∀ j, j < 8 → v j < 4294967296) (hf : ∀ i, i < len → 0 ≤ f i ∧ f i < 256) (hn : n = len / 64) (hcap : len ≤ cap) (G0 : Ground w0) (hib : Tame w0 ib) (hinp : ∀ i, i < len → w0.cell? ⟨ib, off + i, none⟩ = some (.int .u8 (f i)))
    (hk : Kept w0 w) (lv : w0.heap.size ≤ vb) (lk : w0.heap.size ≤ kb) (lr : w0.heap.size ≤ rb) (lb : w0.heap.size ≤ bc) (lc : w0.heap.size ≤ c) (lo : w0.heap.size ≤ oc) (ne : vb ≠ kb ∧ vb ≠ rb ∧ kb ≠ rb ∧ bc ≠ c ∧ bc ≠ oc ∧ c ≠ oc ∧ vb ≠ bc ∧ vb ≠ c ∧ vb ≠ oc ∧ kb ≠ bc ∧ kb ≠ c ∧ kb ≠ oc ∧ rb ≠ bc ∧ rb ≠ c ∧ rb ≠ oc)
    (hrv : ∃ t, RowC w vb (vals .u32 8 (fun j => (v j : Int))) t) (hrk : ∃ t, RowC w kb (vals .u32 64 (fun j => (k32c j : Int))) t) (hrr : ∃ t, RowC w rb (vals .u32 8 (fun _ => 0)) t)
    (hrb : ∃ t, RowC w bc #[.slice (some ⟨ib, off, none⟩) len cap] t) (hro : ∃ t, RowC w oc #[.chan (some c)] t) {tm : Bool} (hch : w.heap[c]? = some (.chan 4 #[] false 0 0 tm))
    {T T12 : Array Value} (h7 : T.size = 7) (h3 : T[3]? = some (.pointer (some ⟨oc, 0, none⟩))) (h5 : T[5]? = some (.func (.func 36) #[] #[.pointer (some ⟨oc, 0, none⟩), .pointer (some ⟨bc, 0, none⟩)]))
    (hT : T12.size = 46 ∧ T12[2]? = some (.pointer (some ⟨vb, 0, none⟩)) ∧ T12[4]? = some (.pointer (some ⟨rb, 0, none⟩)) ∧ T12[5]? = some (.pointer (some ⟨kb, 0, none⟩))) {c0 : Frame} {cs : List Frame}
    (cont : ∀ w', Kept w0 w' → RunsOn Tryd.prog Post (G (c0.finish (.agg (vals .u32 8 (fun j => (blocks32 v f n j : Int))))) cs) w') :
    RunsOn Tryd.prog Post (G ((base 26).at ⟨T, []⟩ [.inRegion (cO p26_2) [1], .code (.seq p26_3 .ret)]) (frB T12 :: c0 :: cs)) w := by
  obtain ⟨n1, n2, n3, n4, n5, n6, n7, n8, n9, n10, n11, n12, n13, n14, n15⟩ := ne
  have hlow : 2 < w0.heap.size := (G0.tame 2 rfl).lt
  have hibl := hib.lt
  obtain ⟨S, hS⟩ : ∃ S : BSet, S = fun b => b ∈ [0, 1, 2, ib, oc] := ⟨_, rfl⟩
  have hSm : ∀ b, S b ↔ (b = 0 ∨ b = 1 ∨ b = 2 ∨ b = ib ∨ b = oc) := fun b => by rw [hS]; simp
  obtain ⟨O1, hO1⟩ : ∃ O : BSet, O = fun b => b = bc := ⟨_, rfl⟩
  obtain ⟨O0, hO0⟩ : ∃ O : BSet, O = fun b => b < w.heap.size ∧ b ≠ bc ∧ b ≠ c ∧ ¬ S b := ⟨_, rfl⟩
  have hcl : c < w.heap.size := (Array.getElem?_eq_some_iff.1 hch).1
  have hbl : bc < w.heap.size := hrb.choose_spec.lt
  have hol : oc < w.heap.size := hro.choose_spec.lt
  have hsz := hk.size
  have sh : Shared S oc ib := ⟨fun g hg => (hSm g).2 (by have := nice_of hg; omega), (hSm _).2 (by omega), (hSm _).2 (by omega)⟩
  have hne : bc ∉ [0, 1, 2, ib, oc] := by simp; omega
  have ge : MGeo S vb kb rb w0 := ⟨sh.tabs, n1, n2, n3, lv, lk, lr, hlow⟩
  have gk := G0.kept hk
  have WI0 : WI S c oc bc ib off len f 0 O1 w := by
    obtain ⟨t, ht⟩ := hrb
    obtain ⟨t2, ht2⟩ := hro
    obtain ⟨fr, ho⟩ := ht2.1
    exact ⟨by rw [hO1], ⟨off, len, cap, t, ht, by omega, hcap, fun _ => by omega⟩, ⟨t2, fr, ho⟩, gk.tabs, gk.tame, hib.kept hk, fun i hi => hk.cell (hinp i hi)⟩
  have own : ∀ b, w0.heap.size ≤ b → b < w.heap.size → b ≠ bc → b ≠ c → b ≠ oc → O0 b := fun b h1 h2 h3 h4 h5 => by
    rw [hO0]
    refine ⟨h2, h3, h4, fun hs => ?_⟩
    have := (hSm b).1 hs
    omega
  have MI0 : MI S vb kb rb w0 (blocks32 v f 0) O0 w := ⟨own vb lv hrv.choose_spec.lt n7 n8 n9, own kb lk hrk.choose_spec.lt n10 n11 n12, own rb lr hrr.choose_spec.lt n13 n14 n15, hrv, hrk, hrr, gk.tabs, gk.tame, hk, fun b hb => by
    by_cases hs : S b
    · exact .inr hs
    · refine .inl ?_
      rw [hO0]
      exact ⟨by omega, by omega, by omega, hs⟩⟩
  have geo : Geo O0 O1 S c := by
    refine ⟨fun b h1 h2 => ?_, fun b h1 h2 => ?_, fun b h1 h2 => ?_, fun h => ?_, fun h => ?_, fun h => ?_⟩
    · rw [hO0] at h1; rw [hO1] at h2; exact h1.2.1 h2
    · rw [hO0] at h1; exact h1.2.2.2 h2
    · rw [hO1] at h1; have := (hSm b).1 h2; have h1' : b = bc := h1; omega
    · rw [hO0] at h; exact h.2.2.1 rfl
    · rw [hO1] at h; exact n4 h.symm
    · have := (hSm c).1 h; omega
  have MO0 : MO S vb kb rb c oc w0 (blocks32 v f 0) O0 w := ⟨MI0, by obtain ⟨t, ht⟩ := hro; obtain ⟨fr, ho⟩ := ht.1; exact ⟨t, fr, ho⟩⟩
  obtain ⟨o1, a1, a2, a3, a4⟩ := op26_2b
  have kind26 : (base 26).kind ≠ .early := by intro h; cases h
  have hrg := fun w1 : World => run_go (a := ⟨T, []⟩) a2 (eval_tmp h5) w1
  refine fin_spawn (S := S) (c := c) (n := n) (z := zeroS) (zs := .tuple #[]) (vals := schedV f) (O0 := O0) (O1 := O1) (g' := G ((base 26).at ⟨T, []⟩ [.inRegion (cO p26_2) [], .code (.seq p26_3 .ret)]) (frB T12 :: c0 :: cs)) (child := born Tryd.prog (dgo oc bc)) rfl (fun d => ?_) ?_ (sender_plan sh hne hf hn O1 w WI0) geo (fun b hb => by rw [hO0] at hb; exact hb.1) (fun b hb => by rw [hO1] at hb; have hb' : b = bc := hb; omega) (fun b hb => by have := (hSm b).1 hb; omega) hch
  · have := stepG_spawn (P := Tryd.prog) (main := true) (b := base 26) (a := ⟨T, []⟩) (rest := []) (k := [.code (.seq p26_3 .ret)]) (cs := frB T12 :: c0 :: cs) (f := .func 36) a1 (wanted_none a4 _) kind26 (hrg (w.at d)).1 rfl
    rw [a3] at this
    refine Eq.trans this ?_
    unfold listed
    rw [(hrg (w.at d)).2, seen_none]
    rfl
  · refine f26_tail (B := blocks32 v f 0) ge sh.o (by omega) (PlanM.closed 0) h7 h3 hT (fun T' hT' => ?_) O0 w MO0
    exact receiver_loop ge v hv f (fun O w T' hi ht => blocks_end ge cont hi ht) n 0 T' (by omega) hT'
/-- schedules, from its beginning to the go statement -/
theorem f26_runs (hv : ∀ j, j < 8 → v j < 4294967296) (hf : ∀ i, i < len → 0 ≤ f i ∧ f i < 256) (hn : n = len / 64) (hcap : len ≤ cap) (G0 : Ground w0) (hib : Tame w0 ib) (hinp : ∀ i, i < len → w0.cell? ⟨ib, off + i, none⟩ = some (.int .u8 (f i)))
    (hk : Kept w0 w) (lv : w0.heap.size ≤ vb) (lk : w0.heap.size ≤ kb) (lr : w0.heap.size ≤ rb) (ne : vb ≠ kb ∧ vb ≠ rb ∧ kb ≠ rb)
    (hrv : ∃ t, RowC w vb (vals .u32 8 (fun j => (v j : Int))) t) (hrk : ∃ t, RowC w kb (vals .u32 64 (fun j => (k32c j : Int))) t) (hrr : ∃ t, RowC w rb (vals .u32 8 (fun _ => 0)) t)
    {T12 : Array Value} (hT : T12.size = 46 ∧ T12[2]? = some (.pointer (some ⟨vb, 0, none⟩)) ∧ T12[4]? = some (.pointer (some ⟨rb, 0, none⟩)) ∧ T12[5]? = some (.pointer (some ⟨kb, 0, none⟩))) {c0 : Frame} {cs : List Frame}
    (cont : ∀ w', Kept w0 w' → RunsOn Tryd.prog Post (G (c0.finish (.agg (vals .u32 8 (fun j => (blocks32 v f n j : Int))))) cs) w') :
    RunsOn Tryd.prog Post (G ((base 26).at ⟨#[.slice (some ⟨ib, off, none⟩) len cap] ++ Array.replicate 6 undef, []⟩ [.code b26]) (frB T12 :: c0 :: cs)) w := by
  have kind26 : (base 26).kind ≠ .early := by intro h; cases h
  have hr0 : List.range (cO p26_0).size = [0, 1] := by kernel_rfl
  have hr1 : List.range (cO p26_1).size = [0, 1, 2] := by kernel_rfl
  have hr2 : List.range (cO p26_2).size = [0, 1] := by kernel_rfl
  obtain ⟨o1, a1, a2, a3, a4⟩ := op26_0a
  obtain ⟨o2, b1, b2, b3, b4⟩ := op26_0b
  obtain ⟨o3, c1, c2, c3, c4⟩ := op26_1a
  obtain ⟨o4, d1, d2, d3, d4⟩ := op26_1b
  obtain ⟨o5, e1, e2, e3, e4⟩ := op26_1c
  obtain ⟨o6, f1, f2, f3, f4⟩ := op26_2a
  have hTT : (#[.slice (some ⟨ib, off, none⟩) len cap] ++ Array.replicate 6 undef : Array Value) = #[.slice (some ⟨ib, off, none⟩) len cap, undef, undef, undef, undef, undef, undef] := by simp [Array.replicate]
  rw [hTT]
  refine run_ctl (fun w => step_code b26_is) (run_ctl (fun w => step_reg p26_0_is hr0) ?_)
  -- box
  refine run_val (w' := w.alloc (.cells #[.slice (some ⟨ib, off, none⟩) len cap] 22)) (.pointer (some ⟨w.heap.size, 0, none⟩)) a1 (wanted_none a4 _) kind26 (fun d => (run_boxS a2 rfl ⟨_, _, _, rfl⟩ (w.at d)).1) (fun d => (run_boxS a2 rfl ⟨_, _, _, rfl⟩ (w.at d)).2) ⟨(Kept.alloc _ _).size, rfl, rfl, rfl⟩ ?_
  rw [a3]
  refine run_val (w' := w.alloc (.cells #[.slice (some ⟨ib, off, none⟩) len cap] 22)) (.chan none) b1 (wanted_none b4 _) kind26 (fun d => (run_assign b2 _).1) (fun d => (run_assign b2 _).2) ⟨Nat.le_refl _, rfl, rfl, rfl⟩ ?_
  rw [b3]
  have k4 := hk.trans (Kept.alloc w (.cells #[.slice (some ⟨ib, off, none⟩) len cap] 22))
  have hrb4 := RowC.new w #[.slice (some ⟨ib, off, none⟩) len cap] 22
  have hs4 := alloc_size w (.cells #[.slice (some ⟨ib, off, none⟩) len cap] 22)
  have q4 := Kept.alloc w (.cells #[.slice (some ⟨ib, off, none⟩) len cap] 22)
  have hks := hk.size
  have lvl := hrv.choose_spec.lt
  have lkl := hrk.choose_spec.lt
  have lrl := hrr.choose_spec.lt
  have lil := hib.lt
  obtain ⟨bc, hbc⟩ : ∃ bc, bc = w.heap.size := ⟨_, rfl⟩
  rw [← hbc] at hrb4 hs4 ⊢
  generalize w.alloc (.cells #[.slice (some ⟨ib, off, none⟩) len cap] 22) = w4 at k4 hrb4 hs4 q4 ⊢
  refine run_ctl (fun w => stepG_region_end) (run_ctl (fun w => stepG_seq) (run_ctl (fun w => step_reg p26_1_is hr1) ?_))
  -- makeChan
  refine run_val (w' := w4.alloc (.chan 4 #[] false 0 0 false)) (.chan (some w4.heap.size)) c1 (wanted_none c4 _) kind26 (fun d => (run_makeChan c2 (w4.at d)).1) (fun d => (run_makeChan c2 (w4.at d)).2) ⟨(Kept.alloc _ _).size, rfl, rfl, rfl⟩ ?_
  rw [c3]
  have k5 := k4.trans (Kept.alloc w4 (.chan 4 #[] false 0 0 false))
  have q5 := q4.trans (Kept.alloc w4 (.chan 4 #[] false 0 0 false))
  have hrb5 := hrb4.kept (Kept.alloc w4 (.chan 4 #[] false 0 0 false))
  have hch5 := alloc_get w4 (.chan 4 #[] false 0 0 false)
  have hs5 := alloc_size w4 (.chan 4 #[] false 0 0 false)
  obtain ⟨c, hc⟩ : ∃ c, c = w4.heap.size := ⟨_, rfl⟩
  rw [← hc] at hch5 hs5 ⊢
  generalize w4.alloc (.chan 4 #[] false 0 0 false) = w5 at k5 q5 hrb5 hch5 hs5 ⊢
  refine run_val (w' := w5.alloc (.cells #[.chan none] 58)) (.pointer (some ⟨w5.heap.size, 0, none⟩)) d1 (wanted_none d4 _) kind26 (fun d => (run_allocC d2 (w5.at d)).1) (fun d => (run_allocC d2 (w5.at d)).2) ⟨(Kept.alloc _ _).size, rfl, rfl, rfl⟩ ?_
  rw [d3]
  have k6 := k5.trans (Kept.alloc w5 (.cells #[.chan none] 58))
  have q6 := q5.trans (Kept.alloc w5 (.cells #[.chan none] 58))
  have hrb6 := hrb5.kept (Kept.alloc w5 (.cells #[.chan none] 58))
  have hch6 : (w5.alloc (.cells #[.chan none] 58)).heap[c]? = some (.chan 4 #[] false 0 0 false) := ((Kept.alloc w5 (.cells #[.chan none] 58)).keep c (by omega)).trans hch5
  have hro6 := RowC.new w5 #[.chan none] 58
  have hs6 := alloc_size w5 (.cells #[.chan none] 58)
  obtain ⟨oc, hoc⟩ : ∃ oc, oc = w5.heap.size := ⟨_, rfl⟩
  rw [← hoc] at hro6 hs6 ⊢
  generalize w5.alloc (.cells #[.chan none] 58) = w6 at k6 q6 hrb6 hch6 hro6 hs6 ⊢
  -- store
  have hlow : 2 < w0.heap.size := (G0.tame 2 rfl).lt
  have g6 := G0.kept k6
  have M : Meet botB topB [0, 1, 2, oc] [0, 1, 2] w6 := by
    refine ⟨fun g hg => by have := nice_of hg; simp; omega, fun b hb => ?_, fun _ _ => .inl trivial, fun b hb hn off => ?_⟩
    · simp at hb
      rcases hb with rfl | rfl | rfl | rfl
      · exact g6.tame 0 rfl
      · exact g6.tame 1 rfl
      · exact g6.tame 2 rfl
      · exact hro6.tame
    · simp at hb hn
      have : b = oc := by omega
      subst this
      exact hro6.2 off
  have hXc := RunsOn.closed (P := Tryd.prog) (Post := Post) botB
  obtain ⟨T6, hT6⟩ : ∃ T6 : Array Value, T6 = #[.slice (some ⟨ib, off, none⟩) len cap, .pointer (some ⟨bc, 0, none⟩), .chan none, .pointer (some ⟨oc, 0, none⟩), .chan (some c), undef, undef] := ⟨_, rfl⟩
  show RunsOn Tryd.prog Post (G ((base 26).at ⟨#[.slice (some ⟨ib, off, none⟩) len cap, .pointer (some ⟨bc, 0, none⟩), .chan none, .pointer (some ⟨oc, 0, none⟩), .chan (some c), undef, undef], []⟩ _) _) w6
  rw [← hT6]
  have s6 : T6.size = 7 := by rw [hT6]; rfl
  have t1 : T6[1]? = some (.pointer (some ⟨bc, 0, none⟩)) := by rw [hT6]; rfl
  have t3 : T6[3]? = some (.pointer (some ⟨oc, 0, none⟩)) := by rw [hT6]; rfl
  have t4 : T6[4]? = some (.chan (some c)) := by rw [hT6]; rfl
  clear hT6
  refine op_skip (X := fun _ g w => RunsOn Tryd.prog Post g w) (O := topB) (b := base 26) progOk hXc [0, 1, 2, oc] [0, 1, 2] (fun i => i = 3 ∨ i = 4) M ?_ e1 (wanted_none e4 _) kind26 (by rw [e2]; rfl) (fun H => ∃ t, H[oc]? = some (.cells #[.chan (some c)] t (0, 0))) (fun T W hsz hkp hW => ?_) ?_
  · rintro i v (rfl | rfl) hv
    · rw [t3] at hv; rw [← Option.some.inj hv]; exact vrel_ptr (by simp)
    · rw [t4] at hv; rw [← Option.some.inj hv]; exact .chan c
  · obtain ⟨fr, ho⟩ := hro6.1
    have h1 := ice_row [0, 1, 2, oc] [0, 1, 2] (by simp) (by simp; omega) ho (fun v hv => by simp at hv; subst hv; exact .cnil)
    rw [← hW] at h1
    obtain ⟨y1, y2⟩ := cell_one h1
    exact ⟨_, run_storeC e2 (eval_tmp ((hkp 3 (by simp)).trans t3)) (eval_tmp ((hkp 4 (by simp)).trans t4)) W y1 y2, rfl, _, set_one h1⟩
  rintro σ O1 WE wE p hH _ ⟨to, hoE⟩
  rw [e3]
  have hroE : RowC wE oc #[.chan (some c)] to := hH.rowC (path_id p (by simp)) hoE (fun v hv => by simp at hv; subst hv; exact fixed_chan _ _)
  have kE : Kept w0 wE := kept_path M p k6 (fun _ _ => .inl trivial) (fun b hb hl => by simp at hb ⊢; omega)
  have hfar : ∀ b, w0.heap.size ≤ b → b ≠ oc → b < w6.heap.size → wE.heap[b]? = w6.heap[b]? := fun b h1 h2 h3 => path_out p (by simp; omega) h3 (.inl trivial)
  refine run_ctl (fun w => stepG_region_end) (run_ctl (fun w => stepG_seq) (run_ctl (fun w => step_reg p26_2_is hr2) ?_))
  refine run_val (a := ⟨T6, []⟩) (w' := wE) _ f1 (wanted_none f4 _) kind26 (fun d => (run_makeFunc f2 (eval_tmp t3) (eval_tmp t1) _).1) (fun d => (run_makeFunc f2 (eval_tmp t3) (eval_tmp t1) _).2) ⟨Nat.le_refl _, rfl, rfl, rfl⟩ ?_
  rw [f3]
  have e5 : (T6.setIfInBounds 5 (.func (.func 36) #[] #[.pointer (some ⟨oc, 0, none⟩), .pointer (some ⟨bc, 0, none⟩)]))[5]? = some (.func (.func 36) #[] #[.pointer (some ⟨oc, 0, none⟩), .pointer (some ⟨bc, 0, none⟩)]) := Array.getElem?_setIfInBounds_self_of_lt (by rw [s6]; decide)
  have q := hk.size
  obtain ⟨n1, n2, n3⟩ := ne
  have hq6 := q6.size
  exact go_runs hv hf hn hcap G0 hib hinp kE lv lk lr (by omega) (by omega) (by omega) ⟨n1, n2, n3, by omega, by omega, by omega, by omega, by omega, by omega, by omega, by omega, by omega, by omega, by omega, by omega⟩
    (by obtain ⟨t, ht⟩ := hrv; exact ⟨t, (ht.kept q6).of_eq (hfar vb lv (by omega) (by omega))⟩) (by obtain ⟨t, ht⟩ := hrk; exact ⟨t, (ht.kept q6).of_eq (hfar kb lk (by omega) (by omega))⟩) (by obtain ⟨t, ht⟩ := hrr; exact ⟨t, (ht.kept q6).of_eq (hfar rb lr (by omega) (by omega))⟩)
    ⟨_, hrb6.of_eq (hfar bc (by omega) (by omega) (by omega))⟩ ⟨to, hroE⟩ ((hfar c (by omega) (by omega) (by omega)).trans hch6) (by simpa using s6) (by rw [Array.getElem?_setIfInBounds_ne (by decide)]; exact t3) e5 hT cont
end
end Go.Proofs.YtfnncplokombgaaDoor

/- What a call does in company, out of what it does alone (44): short.Blocks, whole. -/
namespace Go.Proofs.YtfnncplokombgaaDoor
open Go Go.Conc

theorem run_callF {P : Program} {a : Act} {o : Oper} {f : FuncId} {fn : Func} {c : Code} {xs : Array Operand} {ts : Array TypeId} (hop : o.op = .call ⟨.value (.func f), xs, ts⟩) (hf : P.funcs[f]? = some fn) (hname : (fn.name == "runtime.NumGoroutine") = false) (hb : fn.body = some c) (w : World) : (execOp a.eval o).run P w = .ok (.enter f (xs.map a.eval)) w ∧ (execOp a.eval o).events P w #[] = #[] := by
  have h1 : ¬ fn.name = "runtime.NumGoroutine" := by simpa using hname
  have he : a.eval (.func f) = .func (.func f) #[] #[] := rfl
  unfold execOp
  simp only [hop]
  constructor
  · simp [callFunc, hf, h1, hb, invoke, resolve, Deferred.ofValue, he]
  · simp [callFunc, hf, h1, hb, invoke, resolve, Deferred.ofValue, he]
section
variable {vb kb rb c oc bc ib off len cap n : Nat} {w0 w w1 w3 : World} {Post : Value → World → Prop} {v : Nat → Nat} {f : Nat → Int} {B : Nat → Nat}
/-- the result is laid, and returned -/
theorem blocks_ret (p : Code) (hok : okC p = true) (hwp : ∀ (T : Array Value) (W : World), T.size = 46 → T[2]? = some (.pointer (some ⟨vb, 0, none⟩)) → T[4]? = some (.pointer (some ⟨rb, 0, none⟩)) → (hasRow W vb 8 ∧ rowAt W vb = vals .u32 8 (fun j => (B j : Int))) → hasRow W rb 8 →
      p.wp Tryd.prog (fun e a' w' => e = .normal ∧ a'.defers = [] ∧ (a'.tmps.size = 46 ∧ a'.tmps[4]? = some (.pointer (some ⟨rb, 0, none⟩)) ∧ ∃ t, w'.heap[rb]? = some (.cells (vals .u32 8 (fun j => (B j : Int))) t (0, 0)))) ⟨T, []⟩ W)
    {c0 : Frame} {cs : List Frame} (cont : ∀ w', Kept w0 w' → RunsOn Tryd.prog Post (G (c0.finish (.agg (vals .u32 8 (fun j => (B j : Int))))) cs) w') (hk : Kept w0 w) (htm : ∀ g, niceG.contains g = true → Tame w0 g) (lv : w0.heap.size ≤ vb) (lr : w0.heap.size ≤ rb) (hrv : ∃ t, RowC w vb (vals .u32 8 (fun j => (B j : Int))) t) (hrr : ∃ t, RowC w rb (vals .u32 8 (fun _ => 0)) t)
    {T' : Array Value} (hsz : T'.size = 46) (t2 : T'[2]? = some (.pointer (some ⟨vb, 0, none⟩))) (t4 : T'[4]? = some (.pointer (some ⟨rb, 0, none⟩))) {k : List Item} :
    RunsOn Tryd.prog Post (G ((base 12).at ⟨T', []⟩ (.code (.seq p .ret) :: k)) (c0 :: cs)) w := by
  refine run_ctl (fun w => stepG_seq) ?_
  have hXc := RunsOn.closed (P := Tryd.prog) (Post := Post) botB
  have hlow : 2 < w0.heap.size := (htm 2 rfl).lt
  obtain ⟨tv, hrv⟩ := hrv
  obtain ⟨tr, hrr⟩ := hrr
  have M : Meet botB topB [0, 1, 2, vb, rb] [0, 1, 2] w := by
    refine ⟨fun g hg => by have := nice_of hg; simp; omega, fun b hb => ?_, fun _ _ => .inl trivial, fun b hb hn off => ?_⟩
    · simp at hb
      rcases hb with rfl | rfl | rfl | rfl | rfl
      · exact (htm 0 rfl).kept hk
      · exact (htm 1 rfl).kept hk
      · exact (htm 2 rfl).kept hk
      · exact hrv.tame
      · exact hrr.tame
    · simp at hb hn
      have : b = vb ∨ b = rb := by omega
      rcases this with rfl | rfl
      · exact hrv.2 off
      · exact hrr.2 off
  refine code_piece (X := fun _ g w => RunsOn Tryd.prog Post g w) (O := topB) progOk hXc [0, 1, 2, vb, rb] [0, 1, 2] (fun i => i = 2 ∨ i = 4) M ?_ ⟨fun _ => rfl, fun h => absurd rfl h⟩ hok
    (fun TE H => TE.size = 46 ∧ TE[4]? = some (.pointer (some ⟨rb, 0, none⟩)) ∧ ∃ t, H[rb]? = some (.cells (vals .u32 8 (fun j => (B j : Int))) t (0, 0))) (fun T W hT hkp hW => ?_) ?_
  · rintro i v (rfl | rfl) hv
    · rw [t2] at hv; rw [← Option.some.inj hv]; exact vrel_ptr (by simp)
    · rw [t4] at hv; rw [← Option.some.inj hv]; exact vrel_ptr (by simp)
  · obtain ⟨f1, h1⟩ := hrv.1
    obtain ⟨f2, h2⟩ := hrr.1
    have e1 := ice_row [0, 1, 2, vb, rb] [0, 1, 2] (by simp) (by simp; omega) h1 (vrel_vals _ _ _ _)
    have e2 := ice_row [0, 1, 2, vb, rb] [0, 1, 2] (by simp) (by simp; omega) h2 (vrel_vals _ _ _ _)
    rw [← hW] at e1 e2
    exact hwp T W (hT.trans hsz) ((hkp 2 (by simp)).trans t2) ((hkp 4 (by simp)).trans t4) ⟨⟨_, _, e1, vals_size _ _ _⟩, by unfold rowAt; rw [e1]⟩ ⟨_, _, e2, vals_size _ _ _⟩
  · rintro σ O1 TE TE' WE wE p hT hH _ ⟨r1, r2, t, r3⟩
    have hk1 : Kept w0 wE := kept_path M p hk (fun _ _ => .inl trivial) (fun b hb hl => by simp at hb ⊢; omega)
    have hrow : RowC wE rb (vals .u32 8 (fun j => (B j : Int))) t := hH.rowC (path_id p (by simp)) r3 (fun v hv => by
      obtain ⟨i, hi, e⟩ := Array.mem_iff_getElem.1 hv
      rw [← e, vals_get]
      exact fixed_int _ _ _)
    have t4 := hT.fixed r2 (fixed_ptr hH.fine (path_id p (by simp)))
    refine run_ctl (fun w => stepG_ret') ?_
    have M2 : Meet botB topB [0, 1, 2, rb] [0, 1, 2] wE := by
      refine ⟨fun g hg => by have := nice_of hg; simp; omega, fun b hb => ?_, fun _ _ => .inl trivial, fun b hb hn off => ?_⟩
      · simp at hb
        rcases hb with rfl | rfl | rfl | rfl
        · exact (htm 0 rfl).kept hk1
        · exact (htm 1 rfl).kept hk1
        · exact (htm 2 rfl).kept hk1
        · exact hrow.tame
      · simp at hb hn
        have : b = rb := by omega
        subst this
        exact hrow.2 off
    refine leave_piece (X := fun _ g w => RunsOn Tryd.prog Post g w) (O := topB) (b := base 12) hXc [0, 1, 2, rb] [0, 1, 2] (fun i => i = 4) M2 ?_ rfl Tryd.func12 (v := .agg (vals .u32 8 (fun j => (B j : Int)))) (fun T W hsz hkp hW => ?_) (fun σ => fixed_vals σ _ _ _) ?_
    · rintro i v rfl hv
      rw [t4] at hv; rw [← Option.some.inj hv]; exact vrel_ptr (by simp)
    · obtain ⟨fr, h1⟩ := hrow.1
      have e := ice_row [0, 1, 2, rb] [0, 1, 2] (by simp) (by simp; omega) h1 (vrel_vals _ _ _ _)
      rw [← hW] at e
      have := results_row (P := Tryd.prog) (w := W) arr8 (fn := Tryd.f12) rfl T rb (by rw [Array.getD_eq_getD_getElem?, hkp 4 rfl, t4]; rfl) ⟨_, t, e, vals_size _ _ _⟩
      rw [this]
      unfold rowAt
      rw [e]
    · intro σ2 O2 WE2 wE2 p2
      exact cont wE2 (kept_path M2 p2 hk1 (fun _ _ => .inl trivial) (fun b hb hl => by simp at hb ⊢; omega))
/-- ████ short.Blocks, BESIDE LEAVERS ████ -/
theorem blocks_runs (hv : ∀ j, j < 8 → v j < 4294967296) (hf : ∀ i, i < len → 0 ≤ f i ∧ f i < 256) (hcap : len ≤ cap) (G0 : Ground w) (s : Option Addr) (hin : 0 < len → ∃ ib off, s = some ⟨ib, off, none⟩ ∧ Tame w ib ∧ ∀ i, i < len → w.cell? ⟨ib, off + i, none⟩ = some (.int .u8 (f i))) {c0 : Frame} {cs : List Frame}
    (cont : ∀ w', Kept w w' → RunsOn Tryd.prog Post (G (c0.finish (.agg (vals .u32 8 (fun j => (blocks32 v f (len / 64) j : Int))))) cs) w') :
    RunsOn Tryd.prog Post (G (Frame.enter Tryd.prog 12 #[.agg (vals .u32 8 (fun j => (v j : Int))), .slice s len cap] .normal) (c0 :: cs)) w := by
  have hbody : Tryd.f12.body = some b12 := by unfold b12; rfl
  rw [enter_at (P := Tryd.prog) #[.agg (vals .u32 8 (fun j => (v j : Int))), .slice s len cap] Tryd.func12 hbody]
  obtain ⟨T0, hT0⟩ : ∃ T0 : Array Value, T0 = #[.agg (vals .u32 8 (fun j => (v j : Int))), .slice s len cap] ++ Array.replicate (Tryd.f12.ntmps - (#[.agg (vals .u32 8 (fun j => (v j : Int))), .slice s len cap] : Array Value).size) undef := ⟨_, rfl⟩
  rw [← hT0]
  have s0 : T0.size = 46 := by rw [hT0]; simp
  have t0 : T0[0]? = some (.agg (vals .u32 8 (fun j => (v j : Int)))) := by rw [hT0, Array.getElem?_append_left (by simp)]; simp
  have t1 : T0[1]? = some (.slice s len cap) := by rw [hT0, Array.getElem?_append_left (by simp)]; simp
  clear hT0
  have hr0 : List.range (cO p12_0).size = [0, 1] := by kernel_rfl
  have hr1 : List.range (cO p12_1).size = [0, 1, 2] := by kernel_rfl
  have hr4 : List.range (cO p12_4).size = [0, 1] := by kernel_rfl
  obtain ⟨o1, a1, a2, a3, a4⟩ := op12_0a
  obtain ⟨o2, b1, b2, b3, b4⟩ := op12_0b
  obtain ⟨o3, c1, c2, c3, c4⟩ := op12_1a
  obtain ⟨o4, d1, d2, d3, d4⟩ := op12_1b
  obtain ⟨o5, e1, e2, e3, e4⟩ := op12_1c
  obtain ⟨o6, f1, f2, f3, f4⟩ := op12_4a
  obtain ⟨o7, g1, g2, g3, g4⟩ := op12_4b
  refine run_ctl (fun w => step_code b12_is) (run_ctl (fun w => step_reg p12_0_is hr0) ?_)
  refine run_val (a := ⟨T0, []⟩) (w' := w.alloc (.cells (vals .u32 8 (fun j => (v j : Int))) 31)) (.pointer (some ⟨w.heap.size, 0, none⟩)) a1 (wanted_none a4 _) kind12 (fun d => (run_box8 a2 (eval_tmp t0) (w.at d)).1) (fun d => (run_box8 a2 (eval_tmp t0) (w.at d)).2) ⟨(Kept.alloc _ _).size, rfl, rfl, rfl⟩ ?_
  rw [a3]
  have q1 := Kept.alloc w (.cells (vals .u32 8 (fun j => (v j : Int))) 31)
  have hv1 := RowC.new w (vals .u32 8 (fun j => (v j : Int))) 31
  have z1 := alloc_size w (.cells (vals .u32 8 (fun j => (v j : Int))) 31)
  generalize w.alloc (.cells (vals .u32 8 (fun j => (v j : Int))) 31) = w1 at q1 hv1 z1 ⊢
  refine run_val (w' := w1.alloc (.cells (vals .u32 8 (fun _ => 0)) 31)) (.pointer (some ⟨w1.heap.size, 0, none⟩)) b1 (wanted_none b4 _) kind12 (fun d => (run_alloc8 b2 (w1.at d)).1) (fun d => (run_alloc8 b2 (w1.at d)).2) ⟨(Kept.alloc _ _).size, rfl, rfl, rfl⟩ ?_
  rw [b3]
  have q2 := q1.trans (Kept.alloc w1 (.cells (vals .u32 8 (fun _ => 0)) 31))
  have hv2 := hv1.kept (Kept.alloc w1 (.cells (vals .u32 8 (fun _ => 0)) 31))
  have hr2 := RowC.new w1 (vals .u32 8 (fun _ => 0)) 31
  have z2 := alloc_size w1 (.cells (vals .u32 8 (fun _ => 0)) 31)
  obtain ⟨vb, hvb⟩ : ∃ vb, vb = w.heap.size := ⟨_, rfl⟩
  obtain ⟨rb, hrb⟩ : ∃ rb, rb = w1.heap.size := ⟨_, rfl⟩
  rw [← hvb] at hv2
  rw [← hrb] at hr2
  show RunsOn Tryd.prog Post (G ((base 12).at ⟨(T0.setIfInBounds 2 (.pointer (some ⟨w.heap.size, 0, none⟩))).setIfInBounds 4 (.pointer (some ⟨w1.heap.size, 0, none⟩)), []⟩ _) _) _
  rw [← hvb, ← hrb]
  generalize w1.alloc (.cells (vals .u32 8 (fun _ => 0)) 31) = w2 at q2 hv2 hr2 z2 ⊢
  have s1 : ((T0.setIfInBounds 2 (.pointer (some ⟨vb, 0, none⟩))).setIfInBounds 4 (.pointer (some ⟨rb, 0, none⟩))).size = 46 := by simpa using s0
  have u1 : ((T0.setIfInBounds 2 (.pointer (some ⟨vb, 0, none⟩))).setIfInBounds 4 (.pointer (some ⟨rb, 0, none⟩)))[1]? = some (.slice s len cap) := by rw [Array.getElem?_setIfInBounds_ne (by decide), Array.getElem?_setIfInBounds_ne (by decide)]; exact t1
  have u2 : ((T0.setIfInBounds 2 (.pointer (some ⟨vb, 0, none⟩))).setIfInBounds 4 (.pointer (some ⟨rb, 0, none⟩)))[2]? = some (.pointer (some ⟨vb, 0, none⟩)) := by rw [Array.getElem?_setIfInBounds_ne (by decide)]; exact Array.getElem?_setIfInBounds_self_of_lt (by omega)
  have u4 : ((T0.setIfInBounds 2 (.pointer (some ⟨vb, 0, none⟩))).setIfInBounds 4 (.pointer (some ⟨rb, 0, none⟩)))[4]? = some (.pointer (some ⟨rb, 0, none⟩)) := Array.getElem?_setIfInBounds_self_of_lt (by simp; omega)
  generalize (T0.setIfInBounds 2 (.pointer (some ⟨vb, 0, none⟩))).setIfInBounds 4 (.pointer (some ⟨rb, 0, none⟩)) = T1 at s1 u1 u2 u4 ⊢
  refine run_ctl (fun w => stepG_region_end) (run_ctl (fun w => stepG_seq) (run_ctl (fun w => stepG_seq) (run_ctl (fun w => step_reg p12_1_is hr1) ?_)))
  -- the length
  have hmv := fun w1 : World => run_move (P := Tryd.prog) (a := ⟨T1, []⟩) c2 w1
  rw [eval_tmp u1] at hmv
  refine run_val (a := ⟨T1, []⟩) (w' := w2) _ c1 (wanted_none c4 _) kind12 (fun d => (hmv _).1) (fun d => (hmv _).2) ⟨Nat.le_refl _, rfl, rfl, rfl⟩ ?_
  rw [c3]
  have x10 : (T1.setIfInBounds 10 (.slice s len cap))[10]? = some (.slice s len cap) := Array.getElem?_setIfInBounds_self_of_lt (by omega)
  refine run_val (a := ⟨T1.setIfInBounds 10 (.slice s len cap), []⟩) (w' := w2) _ d1 (wanted_none d4 _) kind12 (fun d => (run_len d2 (eval_tmp x10) _).1) (fun d => (run_len d2 (eval_tmp x10) _).2) ⟨Nat.le_refl _, rfl, rfl, rfl⟩ ?_
  rw [d3]
  have x11 : ((T1.setIfInBounds 10 (.slice s len cap)).setIfInBounds 11 (.int .i64 len))[11]? = some (.int .i64 len) := Array.getElem?_setIfInBounds_self_of_lt (by simp; omega)
  refine run_val (a := ⟨(T1.setIfInBounds 10 (.slice s len cap)).setIfInBounds 11 (.int .i64 len), []⟩) (w' := w2) _ e1 (wanted_none e4 _) kind12 (fun d => (run_lss e2 (eval_tmp x11) _).1) (fun d => (run_lss e2 (eval_tmp x11) _).2) ⟨Nat.le_refl _, rfl, rfl, rfl⟩ ?_
  rw [e3]
  show RunsOn Tryd.prog Post (G ((base 12).at ⟨((T1.setIfInBounds 10 (.slice s len cap)).setIfInBounds 11 (.int .i64 len)).setIfInBounds 12 (.bool (decide ((len : Int) < 64))), []⟩ _) _) w2
  have x12 : (((T1.setIfInBounds 10 (.slice s len cap)).setIfInBounds 11 (.int .i64 len)).setIfInBounds 12 (.bool (decide ((len : Int) < 64))))[12]? = some (.bool (decide ((len : Int) < 64))) := Array.getElem?_setIfInBounds_self_of_lt (by simp; omega)
  have s2 : (((T1.setIfInBounds 10 (.slice s len cap)).setIfInBounds 11 (.int .i64 len)).setIfInBounds 12 (.bool (decide ((len : Int) < 64)))).size = 46 := by simpa using s1
  have keepT : ∀ i, i ≠ 10 → i ≠ 11 → i ≠ 12 → (((T1.setIfInBounds 10 (.slice s len cap)).setIfInBounds 11 (.int .i64 len)).setIfInBounds 12 (.bool (decide ((len : Int) < 64))))[i]? = T1[i]? := fun i h1 h2 h3 => by rw [Array.getElem?_setIfInBounds_ne (Ne.symm h3), Array.getElem?_setIfInBounds_ne (Ne.symm h2), Array.getElem?_setIfInBounds_ne (Ne.symm h1)]
  have y1 := (keepT 1 (by decide) (by decide) (by decide)).trans u1
  have y2 := (keepT 2 (by decide) (by decide) (by decide)).trans u2
  have y4 := (keepT 4 (by decide) (by decide) (by decide)).trans u4
  clear keepT x10 x11 u1 u2 u4 s1 hmv
  generalize ((T1.setIfInBounds 10 (.slice s len cap)).setIfInBounds 11 (.int .i64 len)).setIfInBounds 12 (.bool (decide ((len : Int) < 64))) = T2 at x12 s2 y1 y2 y4 ⊢
  refine run_ctl (fun w => stepG_region_end) (run_ctl (fun w => stepG_cond (eval_tmp x12)) ?_)
  have hlow : 2 < w.heap.size := (G0.tame 2 rfl).lt
  by_cases h64 : len < 64
  · have hd : decide ((len : Int) < 64) = true := decide_eq_true (by omega)
    rw [hd, if_pos rfl]
    have h0 : len / 64 = 0 := by omega
    rw [h0] at cont
    refine blocks_ret (B := v) p12_2 (by kernel_rfl) (fun T W h1 h2 h3 h4 h5 => ?_) cont q2 G0.tame (by omega) (by omega) ⟨_, hv2⟩ ⟨_, hr2⟩ s2 y2 y4
    obtain ⟨x0, x1, x2, x3, x4, x5, x6, x7, x8, x9, x10, x11, x12, x13, x14, x15, x16, x17, x18, x19, x20, x21, x22, x23, x24, x25, x26, x27, x28, x29, x30, x31, x32, x33, x34, x35, x36, x37, x38, x39, x40, x41, x42, x43, x44, x45, rfl⟩ := lit46 h1
    obtain rfl : x2 = _ := Option.some.inj h2
    obtain rfl : x4 = _ := Option.some.inj h3
    exact w12_2 x0 x1 x3 x5 x6 x7 x8 x9 x10 x11 x12 x13 x14 x15 x16 x17 x18 x19 x20 x21 x22 x23 x24 x25 x26 x27 x28 x29 x30 x31 x32 x33 x34 x35 x36 x37 x38 x39 x40 x41 x42 x43 x44 x45 vb rb v W h4 h5
  · have hd : decide ((len : Int) < 64) = false := decide_eq_false (by omega)
    rw [hd, if_neg (by decide)]
    obtain ⟨ib, off, rfl, hib, hinp⟩ := hin (by omega)
    have hil := hib.lt
    have g2' := G0.kept q2
    refine run_ctl (fun w => stepG_skip) (run_ctl (fun w => stepG_seq) ?_)
    have M : Meet botB topB [0, 1, 2, ib, vb, rb] [0, 1, 2, ib, vb, rb] w2 := by
      refine ⟨fun g hg => by have := nice_of hg; simp; omega, fun b hb => ?_, fun _ _ => .inl trivial, fun b hb hn => absurd hb hn⟩
      simp at hb
      rcases hb with rfl | rfl | rfl | rfl | rfl | rfl
      · exact g2'.tame 0 rfl
      · exact g2'.tame 1 rfl
      · exact g2'.tame 2 rfl
      · exact hib.kept q2
      · exact hv2.tame
      · exact hr2.tame
    have hXc := RunsOn.closed (P := Tryd.prog) (Post := Post) botB
    refine code_piece (X := fun _ g w => RunsOn Tryd.prog Post g w) (O := topB) progOk hXc [0, 1, 2, ib, vb, rb] [0, 1, 2, ib, vb, rb] (fun i => i = 1 ∨ i = 2 ∨ i = 4) M ?_ ⟨fun _ => rfl, fun h => absurd rfl h⟩ (by kernel_rfl)
      (fun TE H => TE.size = 46 ∧ TE[1]? = some (.slice (some ⟨ib, off, none⟩) len cap) ∧ TE[2]? = some (.pointer (some ⟨vb, 0, none⟩)) ∧ TE[4]? = some (.pointer (some ⟨rb, 0, none⟩)) ∧ ∃ g t, TE[5]? = some (.pointer (some ⟨g, 0, none⟩)) ∧ w2.heap.size ≤ g ∧ H[g]? = some (.cells (vals .u32 64 (fun j => (k32c j : Int))) t (0, 0))) (fun T W hT hkp hW => ?_) ?_
    · rintro i v (rfl | rfl | rfl) hv
      · rw [y1] at hv; rw [← Option.some.inj hv]; exact vrel_slice (by simp) _ _
      · rw [y2] at hv; rw [← Option.some.inj hv]; exact vrel_ptr (by simp)
      · rw [y4] at hv; rw [← Option.some.inj hv]; exact vrel_ptr (by simp)
    · obtain ⟨x0, x1, x2, x3, x4, x5, x6, x7, x8, x9, x10, x11, x12, x13, x14, x15, x16, x17, x18, x19, x20, x21, x22, x23, x24, x25, x26, x27, x28, x29, x30, x31, x32, x33, x34, x35, x36, x37, x38, x39, x40, x41, x42, x43, x44, x45, rfl⟩ := lit46 (hT.trans s2)
      obtain rfl : x1 = _ := Option.some.inj ((hkp 1 (by simp)).trans y1)
      obtain rfl : x2 = _ := Option.some.inj ((hkp 2 (by simp)).trans y2)
      obtain rfl : x4 = _ := Option.some.inj ((hkp 4 (by simp)).trans y4)
      have hws : W.heap.size = w2.heap.size := by rw [hW, ice_size]
      have htab : Tab80 W := fun j hj => by
        rw [← ice_cell [0, 1, 2, ib, vb, rb] [0, 1, 2, ib, vb, rb] (g2'.tab j hj) (.int _ _)]
        exact heap_cell (by rw [hW])
      exact Go.wp_mono (w12_3 x0 (.slice (some ⟨ib, off, none⟩) len cap) (.pointer (some ⟨vb, 0, none⟩)) x3 (.pointer (some ⟨rb, 0, none⟩)) x5 x6 x7 x8 x9 x10 x11 x12 x13 x14 x15 x16 x17 x18 x19 x20 x21 x22 x23 x24 x25 x26 x27 x28 x29 x30 x31 x32 x33 x34 x35 x36 x37 x38 x39 x40 x41 x42 x43 x44 x45 W htab) fun e a' w' ⟨q1, q2, q3, q4, q5, q6, g, t, q7, q8, q9⟩ => ⟨q1, q2, q3, q4, q5, q6, g, t, q7, by omega, q9⟩
    · rintro σ O1 TE TE' WE wE p hT hH _ ⟨r1, r2, r3, r4, gk, tk, r5, r6, r7⟩
      have kE : Kept w2 wE := p.kept (fun _ _ => .inl trivial) (idL_stiff M.tame (fun b hb => hb))
      have v1' := hT.fixed r2 (fixed_slice hH.fine (path_id p (by simp)) _ _)
      have v2' := hT.fixed r3 (fixed_ptr hH.fine (path_id p (by simp)))
      have v4' := hT.fixed r4 (fixed_ptr hH.fine (path_id p (by simp)))
      obtain ⟨v', t5', hvv⟩ := hT.get r5
      cases hvv with
      | ptr ha =>
        cases ha with
        | @mk _ kb hb _ _ =>
        have hrow := hH.rowC hb r7 (fun v hv => by
          obtain ⟨i, hi, e⟩ := Array.mem_iff_getElem.1 hv
          rw [← e, vals_get]
          exact fixed_int _ _ _)
        have hkb : w2.heap.size ≤ kb := by
          rcases p.fresh _ _ hb with ⟨_, hm⟩ | ⟨_, hm⟩
          · have := (M.tame _ hm).lt
            omega
          · exact hm
        refine run_ctl (fun w => stepG_seq) (run_ctl (fun w => stepG_seq) (run_ctl (fun w => step_reg p12_4_is hr4) ?_))
        have hmv := fun w1 : World => run_move (P := Tryd.prog) (a := ⟨TE', []⟩) f2 w1
        rw [eval_tmp v1'] at hmv
        refine run_val (a := ⟨TE', []⟩) (w' := wE) _ f1 (wanted_none f4 _) kind12 (fun d => (hmv _).1) (fun d => (hmv _).2) ⟨Nat.le_refl _, rfl, rfl, rfl⟩ ?_
        rw [f3]
        have hsz' : TE'.size = 46 := hT.1.symm.trans r1
        have x15 : (TE'.setIfInBounds 15 (.slice (some ⟨ib, off, none⟩) len cap))[15]? = some (.slice (some ⟨ib, off, none⟩) len cap) := Array.getElem?_setIfInBounds_self_of_lt (by omega)
        have hb26 : Tryd.f26.body = some b26 := by unfold b26; rfl
        have hcf := fun w1 : World => run_callF (P := Tryd.prog) (a := ⟨TE'.setIfInBounds 15 (.slice (some ⟨ib, off, none⟩) len cap), []⟩) g2 Tryd.func26 rfl hb26 w1
        have hmap : (#[(.tmp 15 : Operand)]).map (Act.eval ⟨TE'.setIfInBounds 15 (.slice (some ⟨ib, off, none⟩) len cap), []⟩) = #[.slice (some ⟨ib, off, none⟩) len cap] := by
          rw [map_one, eval_tmp x15]
        rw [hmap] at hcf
        refine run_enter (a := ⟨TE'.setIfInBounds 15 (.slice (some ⟨ib, off, none⟩) len cap), []⟩) g1 (wanted_none g4 _) kind12 (fun w => (hcf w).1) (fun w => (hcf w).2) ?_
        rw [enter_at (P := Tryd.prog) _ Tryd.func26 hb26]
        have hks := kE.size
        refine f26_runs (w0 := w) (vb := vb) (kb := kb) (rb := rb) hv hf rfl hcap G0 hib hinp (q2.trans kE) (by omega) (by omega) (by omega) ⟨by omega, by omega, by omega⟩ ⟨_, hv2.kept kE⟩ ⟨_, hrow⟩ ⟨_, hr2.kept kE⟩ (T12 := TE'.setIfInBounds 15 (.slice (some ⟨ib, off, none⟩) len cap)) ⟨by simpa using hsz', ?_, ?_, ?_⟩ cont
        · rw [Array.getElem?_setIfInBounds_ne (by decide)]; exact v2'
        · rw [Array.getElem?_setIfInBounds_ne (by decide)]; exact v4'
        · rw [Array.getElem?_setIfInBounds_ne (by decide)]; exact t5'
end
end Go.Proofs.YtfnncplokombgaaDoor
