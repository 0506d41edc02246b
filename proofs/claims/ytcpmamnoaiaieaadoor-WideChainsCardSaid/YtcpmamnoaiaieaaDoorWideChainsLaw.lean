/- The walk of the law WideChains. -/
import Derived.Test.YtcpmamnoaiaieaaDoorWideRoundsLaw
import Derived.Deep.CutRange
namespace Go.Proofs.YtcpmamnoaiaieaaDoor
open Go.RowKit Go.Shelf Go.Sort Bt
attribute [local go_sem] vals_set vals_get? vals_get vals_size rowAt_at rowAt_past hasRow_at hasRow_past run_loadRow run_storeCells_row setRow_at setRow_past rowAt_drewN hasRow_drewN setRow_drewN alloc_drewN setCell_drewN lt_s2 lt_s3 lt_s4 lt_s5 lt_s6
attribute [local go_sem ↓] loadRow_is

/-- 'append(s, x...)' at a step of a region that draws its order, s the call's own -/
theorem step_append_grown {P : Program} {ops : Array Oper} {o : Oper} {a : Act} {w : World} {K : Act → World → Prop} {Q : Exit → Act → World → Prop} {E : Prop} {T e : TypeId} {bytes : Nat} (hT : EltT P T e bytes) (hgd : o.guard = none) (s x : Operand) (ho : o.op = .call { callee := .builtin .append, args := #[s, x], argTypes := #[T, T] })
    {base : Nat} {k : IntKind} {v : Value} {n : Nat} {f : Nat → Int} (hs : a.eval s = v) (hown : owns w base e k v n f) {ad : Addr} {m c : Nat} {g : Nat → Int}
    (hx : a.eval x = .slice (some ad) m c) (hr : reads w (some ad) m k g) (hn : n + m ≤ maxLen) (hby : (n + m) * bytes ≤ 140737488355328) (hbase : base ≤ w.heap.size)
    (h : ∀ v' w', owns w' base e k v' (n + m) (fun j => if j < n then f j else g (j - n)) → w.grownBy w' v.ownBlock → K (a.put o.dst v') w') : if Region.wanted o (yielded ops a.tmps) = true then Oper.wp P o a w K Q else E := by
  have hwt : Region.wanted o (yielded ops a.tmps) = true := by simp [Region.wanted, hgd]
  rw [if_pos hwt]
  obtain ⟨hu, i, z, hi, hz, h1, h2, h3⟩ := hT
  refine wp_append_own _ s x T ho base e i z 1 bytes hu hi hz h1 h2 h3 (by decide) v n (vals k n f).toList hs hown ad m c (vals k m g).toList hx (by simp [vals_size]) (reads_news hr) vals_one hn hby hbase ?_
  intro v' w' h' hg _
  refine h v' w' ?_ hg
  unfold owns
  rw [← vals_append]
  exact h'
/-- 'append(s, x...)' at such a step, s without room: a row of the call's own -/
theorem step_append_zero {P : Program} {ops : Array Oper} {o : Oper} {a : Act} {w : World} {K : Act → World → Prop} {Q : Exit → Act → World → Prop} {E : Prop} {T e : TypeId} {bytes : Nat} (hT : EltT P T e bytes) (hgd : o.guard = none) (s x : Operand) (ho : o.op = .call { callee := .builtin .append, args := #[s, x], argTypes := #[T, T] })
    {b : Addr} {k : IntKind} (hs : a.eval s = .slice (some b) 0 0) {ad : Addr} {m c : Nat} {g : Nat → Int}
    (hx : a.eval x = .slice (some ad) m c) (hr : reads w (some ad) m k g) (hm : 0 < m) (hn : m ≤ maxLen) (hby : m * bytes ≤ 140737488355328)
    (h : ∀ v' w', owns w' w.heap.size e k v' m g → Below w.heap.size w w' → K (a.put o.dst v') w') : if Region.wanted o (yielded ops a.tmps) = true then Oper.wp P o a w K Q else E := by
  have hwt : Region.wanted o (yielded ops a.tmps) = true := by simp [Region.wanted, hgd]
  rw [if_pos hwt]
  obtain ⟨hu, i, z, hi, hz, h1, h2, h3⟩ := hT
  have hrun := run_append_grow (P := P) w T o.type e i z hu hi hz b 0 0 [] (by simp) (by intro j v hv; simp at hv) ad m c (vals k m g).toList (by simp [vals_size, h1]) (reads_news hr) (by omega) (by simp only [maxLen] at hn; omega) (growslice_fits (by omega) (by rw [h2]; simpa using hby))
  unfold Oper.wp execOp
  simp only [ho, resolve, invoke, builtin, Sem.run_bind, Sem.run_pure, Result.andThen_ok, List.map_toArray, List.map_cons, List.map_nil, hs, hx, hrun]
  have hge := grownCap_ge w (0 + m) 0 e
  have hcm : grownCap w (0 + m) 0 e ≤ maxLen := grownCap_le_maxLen w (0 + m) 0 e (by simpa using hn)
  rw [Nat.zero_add] at hge hcm
  simp only [Nat.zero_add]
  refine h _ _ ?_ (bl_alloc (o := _) (bl_drew (bl_refl w)))
  refine ⟨by simp [vals_size], .inr ⟨_, _, _, rfl, Nat.le_refl _, heap_alloc_new (World.drew _) _, hge, hcm, ?_, ?_⟩⟩
  · simp only [Array.size_append, List.size_toArray, size_zeroCells, h3, List.length_nil, Array.length_toList, vals_size]
    omega
  · simp only [Array.toList_append, List.nil_append, Nat.mul_one]
    exact List.take_left' (by simp [vals_size])
theorem row_keep {w w1 : World} {g n B : Nat} {c : Array Value} (hg : g < B) (hb : Below B w w1) (h : hasRow w g n ∧ rowAt w g = c) : hasRow w1 g n ∧ rowAt w1 g = c := by
  obtain ⟨⟨c0, t, hh, hn⟩, hr⟩ := h
  have e := hb.block g hg
  refine ⟨⟨c0, t, by rw [e]; exact hh, hn⟩, ?_⟩
  rw [← hr]
  unfold rowAt
  rw [e]
theorem reads_row {W : World} {g n : Nat} {k : IntKind} {f : Nat → Int} (h : hasRow W g n ∧ rowAt W g = vals k n f) : reads W (some ⟨g, 0, none⟩) n k f := fun _ => ⟨_, _, rfl, fun j hj => by rw [Nat.zero_add]; exact (cell_of_hasRow h.1 h.2 hj).1⟩
theorem elt8c : EltT Tryd.prog 22 5 1 := elt_of (k := .u8) Tryd.underlying22 (by kernel_rfl)
/-- what stays through the making of the long slice -/
theorem keepC {W W' : World} {w : World} {f g h : Nat → Int} (hS : Below w.heap.size w W ∧ w.heap.size + 3 ≤ W.heap.size ∧ (hasRow W w.heap.size 8 ∧ rowAt W w.heap.size = vals .u64 8 f) ∧ (hasRow W (w.heap.size + 1) 128 ∧ rowAt W (w.heap.size + 1) = vals .u8 128 g) ∧ (hasRow W (w.heap.size + 2) 128 ∧ rowAt W (w.heap.size + 2) = vals .u8 128 h))
    (hb : Below (w.heap.size + 3) W W') : Below w.heap.size w W' ∧ w.heap.size + 3 ≤ W'.heap.size ∧ (hasRow W' w.heap.size 8 ∧ rowAt W' w.heap.size = vals .u64 8 f) ∧ (hasRow W' (w.heap.size + 1) 128 ∧ rowAt W' (w.heap.size + 1) = vals .u8 128 g) ∧ (hasRow W' (w.heap.size + 2) 128 ∧ rowAt W' (w.heap.size + 2) = vals .u8 128 h) := by
  obtain ⟨h1, h2, h3, h4, h5⟩ := hS
  exact ⟨h1.trans (hb.mono (by omega)), Nat.le_trans h2 hb.size, row_keep (by omega) hb h3, row_keep (by omega) hb h4, row_keep (by omega) hb h5⟩
theorem keepD {W W' : World} {w : World} {f g h x : Nat → Int} {gx : Nat} (hS : Below w.heap.size w W ∧ (hasRow W w.heap.size 8 ∧ rowAt W w.heap.size = vals .u64 8 f) ∧ (hasRow W (w.heap.size + 1) 128 ∧ rowAt W (w.heap.size + 1) = vals .u8 128 g) ∧ (hasRow W (w.heap.size + 2) 128 ∧ rowAt W (w.heap.size + 2) = vals .u8 128 h) ∧ (hasRow W gx 8 ∧ rowAt W gx = vals .u64 8 x))
    (hb : Below W.heap.size W W') : Below w.heap.size w W' ∧ (hasRow W' w.heap.size 8 ∧ rowAt W' w.heap.size = vals .u64 8 f) ∧ (hasRow W' (w.heap.size + 1) 128 ∧ rowAt W' (w.heap.size + 1) = vals .u8 128 g) ∧ (hasRow W' (w.heap.size + 2) 128 ∧ rowAt W' (w.heap.size + 2) = vals .u8 128 h) ∧ (hasRow W' gx 8 ∧ rowAt W' gx = vals .u64 8 x) := by
  obtain ⟨h1, h3, h4, h5, h6⟩ := hS
  exact ⟨bl_call h1 hb, row_below hb h3, row_below hb h4, row_below hb h5, row_below hb h6⟩
theorem bl_new {W : World} {B : Nat} (o : Obj) (hB : B ≤ W.heap.size) : Below B W (W.alloc o) := (Below.refl B W).alloc hB o
theorem nat_vals128 (f' : Nat → Int) (hf' : ∀ j, j < 128 → 0 ≤ f' j ∧ f' j < 256) : ∃ f : Nat → Nat, vals .u8 128 f' = vals .u8 128 (fun j => (f j : Int)) ∧ ∀ j, j < 128 → f j < 256 :=
  ⟨fun j => (f' j).toNat, vals_ext _ _ fun j hj => by have := hf' j hj; show f' j = (((f' j).toNat : Nat) : Int); omega, fun j hj => by have := hf' j hj; show (f' j).toNat < 256; omega⟩
set_option maxRecDepth 100000 in
set_option maxHeartbeats 4000000 in
theorem wideChains_walk (f' g' h' : Nat → Int) (w : World) (hf' : ∀ j, j < 8 → 0 ≤ f' j ∧ f' j < 18446744073709551616) (hg' : ∀ j, j < 128 → 0 ≤ g' j ∧ g' j < 256) (hh' : ∀ j, j < 128 → 0 ≤ h' j ∧ h' j < 256) (hT : TabsW w) :
    Calls Tryd.prog 6 #[.agg (vals .u64 8 f'), .agg (vals .u8 128 g'), .agg (vals .u8 128 h')] w fun e w' => e = .returned (.bool true) ∧ Below w.heap.size w w' := by
  obtain ⟨f, e0, hf⟩ := nat_vals8 f' hf'
  rw [e0]
  clear e0 hf'
  have HT : Hid (Tabs64 w ∧ Tab80 w) := Lib.hid hT
  have HF := Lib.hid hf
  have HGb := Lib.hid hg'
  have HHb := Lib.hid hh'
  obtain ⟨V, hV⟩ : ∃ V, Hid (V = blocks64 f g' 1) := ⟨_, Lib.hid rfl⟩
  obtain ⟨X, hX⟩ : ∃ X, Hid (X = blocks64 V h' 1) := ⟨_, Lib.hid rfl⟩
  have hVl : Hid (∀ j, j < 8 → V j < 18446744073709551616) := Lib.hid (by rw [hV.out]; exact blocks64_lt f g' hf 1)
  have hXX : Hid (blocks64 f (fun j => if j < 128 then g' j else h' (j - 128)) 2 = X) := Lib.hid (by
    rw [hX.out, hV.out, show (2 : Nat) = 1 + 1 from rfl, blocks64_add]
    rw [blocks64_congr (g := g') 1 (fun j hj => if_pos (by omega))]
    exact blocks64_congr 1 (fun j hj => by
      show (if 1 * 128 + j < 128 then _ else _) = _
      rw [if_neg (by omega)]
      congr 1
      omega))
  have HW := Lib.hid (bl_alloc (o := .cells (vals .u8 128 h') 36) (bl_alloc (o := .cells (vals .u8 128 g') 36) (bl_alloc (o := .cells (vals .u64 8 (fun j => (f j : Int))) 31) (bl_refl w))))
  have hr0 := row_below (bl_alloc (o := .cells (vals .u8 128 h') 36) (bl_refl _)) (row_below (bl_alloc (o := .cells (vals .u8 128 g') 36) (bl_refl _)) ⟨hasRow_at w (vals .u64 8 (fun j => (f j : Int))) 31 w.heap.size 8 rfl (vals_size _ _ _), rowAt_at w (vals .u64 8 (fun j => (f j : Int))) 31 w.heap.size rfl⟩)
  have hr1 := row_below (bl_alloc (o := .cells (vals .u8 128 h') 36) (bl_refl _)) ⟨hasRow_at (w.alloc (.cells (vals .u64 8 (fun j => (f j : Int))) 31)) (vals .u8 128 g') 36 (w.heap.size + 1) 128 (by simp) (vals_size _ _ _), rowAt_at (w.alloc (.cells (vals .u64 8 (fun j => (f j : Int))) 31)) (vals .u8 128 g') 36 (w.heap.size + 1) (by simp)⟩
  have hr2 : hasRow (((w.alloc (.cells (vals .u64 8 (fun j => (f j : Int))) 31)).alloc (.cells (vals .u8 128 g') 36)).alloc (.cells (vals .u8 128 h') 36)) (w.heap.size + 2) 128 ∧ rowAt (((w.alloc (.cells (vals .u64 8 (fun j => (f j : Int))) 31)).alloc (.cells (vals .u8 128 g') 36)).alloc (.cells (vals .u8 128 h') 36)) (w.heap.size + 2) = vals .u8 128 h' := ⟨hasRow_at _ _ _ _ _ (by simp) (vals_size _ _ _), rowAt_at _ _ _ _ (by simp)⟩
  have hsz : w.heap.size + 3 ≤ (((w.alloc (.cells (vals .u64 8 (fun j => (f j : Int))) 31)).alloc (.cells (vals .u8 128 g') 36)).alloc (.cells (vals .u8 128 h') 36)).heap.size := by simp
  clear hf hg' hh' hT
  go_enter Tryd.func6, Tryd.ntmps6
  go_wp2_with fail
  generalize ((w.alloc (.cells (vals .u64 8 (fun j => (f j : Int))) 31)).alloc (.cells (vals .u8 128 g') 36)).alloc (.cells (vals .u8 128 h') 36) = W1 at HW hr0 hr1 hr2 hsz ⊢
  refine (wakes_w W1 (HT.out.1.below (Nat.le_refl _) HW.out) (HT.out.2.below (Nat.le_refl _) HW.out)).mono ?_
  rintro e w1 ⟨rfl, hb1⟩
  have hb1d := bl_drew (hb1.mono (Nat.le_refl _))
  have S0 : Hid (Below w.heap.size w w1.drew ∧ w.heap.size + 3 ≤ w1.drew.heap.size ∧ (hasRow w1.drew w.heap.size 8 ∧ rowAt w1.drew w.heap.size = vals .u64 8 (fun j => (f j : Int))) ∧ (hasRow w1.drew (w.heap.size + 1) 128 ∧ rowAt w1.drew (w.heap.size + 1) = vals .u8 128 g') ∧ (hasRow w1.drew (w.heap.size + 2) 128 ∧ rowAt w1.drew (w.heap.size + 2) = vals .u8 128 h')) := Lib.hid ⟨bl_call HW.out hb1d, Nat.le_trans hsz hb1d.size, row_below hb1d hr0, row_below hb1d hr1, row_below hb1d hr2⟩
  clear hr0 hr1 hr2 hsz hb1 hb1d HW
  go_wp2_with fail
  have hz8 := zero8
  have CB : Hid (∀ (W : World) (a : Option Addr) (c : Nat), Below w.heap.size w W → reads W a 256 .u8 (fun j => if j < 128 then g' j else h' (j - 128)) → 256 ≤ c → Calls Tryd.prog 12 #[.agg (vals .u64 8 (fun j => (f j : Int))), .slice a 256 c] W fun e w' => e = .returned (.agg (vals .u64 8 (fun j => (X j : Int)))) ∧ Below W.heap.size W w') := Lib.hid (fun W a c hb hr hc => by
    have h := blocks_w f HF.out a 256 c (by omega) hc _ W hr (fun j hj => by
      by_cases h : j < 128
      · simp only [if_pos h]; exact HGb.out j h
      · simp only [if_neg h]; exact HHb.out _ (by omega)) (HT.out.1.below (Nat.le_refl _) hb) (HT.out.2.below (Nat.le_refl _) hb)
    rw [show (256 : Nat) / 128 = 2 from rfl, hXX.out] at h
    exact h)
  go_cut [7] from 10 to 16 (fun s7 wx => ∃ gx : Nat, s7 = .pointer (some ⟨gx, 0, none⟩) ∧ Hid (Below w.heap.size w wx ∧ w.heap.size + 3 ≤ wx.heap.size ∧ (hasRow wx w.heap.size 8 ∧ rowAt wx w.heap.size = vals .u64 8 (fun j => (f j : Int))) ∧ (hasRow wx (w.heap.size + 1) 128 ∧ rowAt wx (w.heap.size + 1) = vals .u8 128 g') ∧ (hasRow wx (w.heap.size + 2) 128 ∧ rowAt wx (w.heap.size + 2) = vals .u8 128 h')) ∧ Hid (hasRow wx gx 8 ∧ rowAt wx gx = vals .u64 8 (fun j => (X j : Int))))
  case first =>
    go_region_held3 (fun W => Below w.heap.size w W ∧ w.heap.size + 3 ≤ W.heap.size ∧ (hasRow W w.heap.size 8 ∧ rowAt W w.heap.size = vals .u64 8 (fun j => (f j : Int))) ∧ (hasRow W (w.heap.size + 1) 128 ∧ rowAt W (w.heap.size + 1) = vals .u8 128 g') ∧ (hasRow W (w.heap.size + 2) 128 ∧ rowAt W (w.heap.size + 2) = vals .u8 128 h')) (first | assumption | exact S0.out | exact S3.out | exact S5.out | exact S6.out | exact keepC S6.out (bl_new _ S6.out.2.1) | exact keepC S6.out (below_setRow' G7 _) | (have hh := ‹Below w.heap.size w _ ∧ _›; exact keepC hh (bl_new _ hh.2.1))) (first | (have hh := ‹Below w.heap.size w _ ∧ _›; refine step_append_zero elt8c rfl (.tmp 11) (.tmp 12) rfl rfl rfl (reads_row hh.2.2.2.1) (by decide) (by decide) (by decide) ?_; intro v3 w3 ho3 hb3; have G3 : Hid (hasRow w3 w1.heap.size 8 ∧ w.heap.size + 3 ≤ w1.heap.size) := Lib.hid ⟨hasRow_below (Nat.le_refl _) hb3 (hasRow_below (Nat.le_refl _) (bl_alloc (bl_refl _)) (hasRow_at w1.drew (vals .u64 8 (fun _ => 0)) 31 w1.heap.size 8 rfl (vals_size _ _ _))), S0.out.2.1⟩; have D3 : Hid (∀ g, ((w1.drew.alloc (.cells (vals .u64 8 (fun _ => 0)) 31)).alloc (.cells #[] 5)).heap.size ≤ g → w1.heap.size ≠ g) := Lib.hid (fun g hg => by simp at hg; omega); have O3 := Lib.hid ho3; have S3 := Lib.hid (keepC hh (hb3.mono hh.2.1)); clear ho3 hh hb3) | (have hh := ‹Below w.heap.size w _ ∧ _›; refine step_append_zero elt8c rfl (.tmp 11) (.tmp 12) rfl rfl rfl (reads_row hh.2.2.2.1) (by decide) (by decide) (by decide) ?_; intro v3 w3 ho3 hb3; have G3 : Hid (hasRow w3 (w1.heap.size + 1) 8 ∧ w.heap.size + 3 ≤ w1.heap.size + 1) := Lib.hid ⟨hasRow_below (Nat.le_refl _) hb3 (hasRow_at (w1.drew.alloc (.cells #[] 5)) (vals .u64 8 (fun _ => 0)) 31 (w1.heap.size + 1) 8 (by simp) (vals_size _ _ _)), Nat.le_succ_of_le S0.out.2.1⟩; have D3 : Hid (∀ g, ((w1.drew.alloc (.cells #[] 5)).alloc (.cells (vals .u64 8 (fun _ => 0)) 31)).heap.size ≤ g → w1.heap.size + 1 ≠ g) := Lib.hid (fun g hg => by simp at hg; omega); have O3 := Lib.hid ho3; have S3 := Lib.hid (keepC hh (hb3.mono hh.2.1)); clear ho3 hh hb3) | (have hh := ‹Below w.heap.size w _ ∧ _›; refine step_append_zero elt8c rfl (.tmp 11) (.tmp 12) rfl rfl rfl (reads_row hh.2.2.2.1) (by decide) (by decide) (by decide) ?_; intro v3 w3 ho3 hb3; have O3 := Lib.hid ho3; have S3 := Lib.hid (keepC hh (hb3.mono hh.2.1)); clear ho3 hh hb3) | (have hh := ‹Below w.heap.size w _ ∧ _›; obtain ⟨g3, c3, e3, _, hg31, hg32, _⟩ := owns_at O3.out (by decide); subst e3; refine step_append_grown elt8c rfl (.tmp 13) (.tmp 14) rfl rfl O3.out rfl (reads_row hh.2.2.2.2) (by decide) (by decide) (Nat.le_of_lt (Nat.lt_of_le_of_lt hg31 hg32)) ?_; intro v5 w5 ho5 hg5; have hg6 : World.grownBy _ w5 (some g3) := hg5; have G5 := Lib.hid (And.intro (hasRow_grown hg6 (D3.out g3 hg31) G3.out.1) G3.out.2); clear hg6; have R5 := Lib.hid (owns_reads ho5); have S5 := Lib.hid (keepC hh (own_grown (owns_base (by refine Nat.le_trans S0.out.2.1 ?_; first | exact (bl_alloc (bl_refl _)).size | exact (bl_alloc (bl_alloc (bl_refl _))).size) O3.out) hg5 hh.2.1)); clear ho5 hg5 hh) | (have hh := ‹Below w.heap.size w _ ∧ _›; obtain ⟨g3, c3, e3, _, hg31, hg32, _⟩ := owns_at O3.out (by decide); subst e3; refine step_append_grown elt8c rfl (.tmp 13) (.tmp 14) rfl rfl O3.out rfl (reads_row hh.2.2.2.2) (by decide) (by decide) (Nat.le_of_lt (Nat.lt_of_le_of_lt hg31 hg32)) ?_; intro v5 w5 ho5 hg5; have R5 := Lib.hid (owns_reads ho5); have S5 := Lib.hid (keepC hh (own_grown (owns_base (by refine Nat.le_trans S0.out.2.1 ?_; first | exact (bl_alloc (bl_refl _)).size | exact (bl_alloc (bl_alloc (bl_refl _))).size) O3.out) hg5 hh.2.1)); clear ho5 hg5 hh) | (have hh := ‹Below w.heap.size w _ ∧ _›; obtain ⟨g3, c3, e3, _, hg31, hg32, _⟩ := owns_at O3.out (by decide); subst e3; refine step_append_grown elt8c rfl (.tmp 13) (.tmp 14) rfl rfl (owns_below (Nat.le_refl _) (bl_alloc (o := .cells (vals .u64 8 (fun _ => 0)) 31) (bl_refl w3)) O3.out) rfl (reads_row hh.2.2.2.2) (by decide) (by decide) (Nat.le_trans (Nat.le_of_lt (Nat.lt_of_le_of_lt hg31 hg32)) (by simp)) ?_; intro v5 w5 ho5 hg5; have hg6 : World.grownBy _ w5 (some g3) := hg5; have G5 : Hid (hasRow w5 w3.heap.size 8 ∧ w.heap.size + 3 ≤ w3.heap.size) := Lib.hid ⟨hasRow_grown hg6 (by omega) (hasRow_at w3 (vals .u64 8 (fun _ => 0)) 31 w3.heap.size 8 rfl (vals_size _ _ _)), S3.out.2.1⟩; clear hg6; have R5 := Lib.hid (owns_reads ho5); have S5 := Lib.hid (keepC hh (own_grown (owns_base (by refine Nat.le_trans S0.out.2.1 ?_; first | exact (bl_alloc (bl_refl _)).size | exact (bl_alloc (bl_alloc (bl_refl _))).size) (owns_below (Nat.le_refl _) (bl_alloc (o := .cells (vals .u64 8 (fun _ => 0)) 31) (bl_refl w3)) O3.out)) hg5 hh.2.1)); clear ho5 hg5 hh) | (have hh := ‹Below w.heap.size w _ ∧ _›; obtain ⟨a5, c5, e5, hc5, _, hr5⟩ := R5.out; subst e5; go_at_call 12; (with_reducible refine (CB.out _ a5 c5 hh.1 hr5 hc5).mono ?_); rintro e w6 ⟨rfl, hb6⟩; have G6 := hasRow_below (Nat.le_refl _) hb6 G5.out.1; have G7 := G5.out.2; have S6 := Lib.hid (keepC hh (hb6.mono hh.2.1)); clear hb6 hh hr5) | (have hh := ‹Below w.heap.size w _ ∧ _›; obtain ⟨a5, c5, e5, hc5, _, hr5⟩ := R5.out; subst e5; go_at_call 12; (with_reducible refine (CB.out _ a5 c5 hh.1 hr5 hc5).mono ?_); rintro e w6 ⟨rfl, hb6⟩; have S6 := Lib.hid (keepC hh (hb6.mono hh.2.1)); clear hb6 hh hr5) | (have hh := ‹Below w.heap.size w _ ∧ _›; obtain ⟨a5, c5, e5, hc5, _, hr5⟩ := R5.out; subst e5; go_at_call 12; (with_reducible refine (CB.out _ a5 c5 hh.1 (reads_alloc _ hr5) hc5).mono ?_); rintro e w6 ⟨rfl, hb6⟩; have G6 : hasRow w6 w5.heap.size 8 := hasRow_below (Nat.le_refl _) hb6 (hasRow_at w5 (vals .u64 8 (fun _ => 0)) 31 w5.heap.size 8 rfl (vals_size _ _ _)); have G7 := S5.out.2.1; have S6 := Lib.hid (keepC hh (hb6.mono hh.2.1)); clear hb6 hh hr5))
    all_goals go_wp2_with fail
    all_goals go_meet
    all_goals first | exact ⟨_, rfl, Lib.hid (keepC S6.out (bl_new _ S6.out.2.1)), Lib.hid ⟨hasRow_at w6 _ _ w6.heap.size 8 rfl (vals_size _ _ _), rowAt_at _ _ _ _ rfl⟩⟩ | exact ⟨_, rfl, Lib.hid (keepC S6.out (below_setRow' G7 _)), Lib.hid ⟨(row_setRow G6 _ (vals_size _ _ _)).1, (row_setRow G6 _ (vals_size _ _ _)).2.1⟩⟩
  case rest =>
    obtain ⟨gx, rfl, R0, RX⟩ := hcut
    clear S0 CB hz8 hXX
    have CB1 : Hid (∀ W, Below w.heap.size w W → (hasRow W (w.heap.size + 1) 128 ∧ rowAt W (w.heap.size + 1) = vals .u8 128 g') → Calls Tryd.prog 12 #[.agg (vals .u64 8 (fun j => (f j : Int))), .slice (some ⟨w.heap.size + 1, 0, none⟩) 128 128] W fun e w' => e = .returned (.agg (vals .u64 8 (fun j => (V j : Int)))) ∧ Below W.heap.size W w') := Lib.hid (fun W hb hr => by
      have h := blocks_w f HF.out (some ⟨w.heap.size + 1, 0, none⟩) 128 128 (by omega) (by omega) g' W (reads_row hr) HGb.out (HT.out.1.below (Nat.le_refl _) hb) (HT.out.2.below (Nat.le_refl _) hb)
      rw [show (128 : Nat) / 128 = 1 from rfl, ← hV.out] at h
      exact h)
    have CB2 : Hid (∀ W, Below w.heap.size w W → (hasRow W (w.heap.size + 2) 128 ∧ rowAt W (w.heap.size + 2) = vals .u8 128 h') → Calls Tryd.prog 12 #[.agg (vals .u64 8 (fun j => (V j : Int))), .slice (some ⟨w.heap.size + 1 + 1, 0, none⟩) 128 128] W fun e w' => e = .returned (.agg (vals .u64 8 (fun j => (X j : Int)))) ∧ Below W.heap.size W w') := Lib.hid (fun W hb hr => by
      have h := blocks_w V hVl.out (some ⟨w.heap.size + 1 + 1, 0, none⟩) 128 128 (by omega) (by omega) h' W (reads_row hr) HHb.out (HT.out.1.below (Nat.le_refl _) hb) (HT.out.2.below (Nat.le_refl _) hb)
      rw [show (128 : Nat) / 128 = 1 from rfl, ← hX.out] at h
      exact h)
    have CR1 : Hid (∀ W, (hasRow W (w.heap.size + 1) 128 ∧ rowAt W (w.heap.size + 1) = vals .u8 128 g') → Calls Tryd.prog 13 #[.agg (vals .u64 8 (fun j => (f j : Int))), .slice (some ⟨w.heap.size + 1, 0, none⟩) 128 128] W fun e w' => e = .returned (.agg (vals .u64 8 (fun j => (V j : Int)))) ∧ Below W.heap.size W w') := Lib.hid (fun W hr => by
      have h := rblocks_w f HF.out (some ⟨w.heap.size + 1, 0, none⟩) 128 128 (by omega) (by omega) g' W (reads_row hr) HGb.out
      rw [show (128 : Nat) / 128 = 1 from rfl, ← hV.out] at h
      exact h)
    have CR2 : Hid (∀ W, (hasRow W (w.heap.size + 2) 128 ∧ rowAt W (w.heap.size + 2) = vals .u8 128 h') → Calls Tryd.prog 13 #[.agg (vals .u64 8 (fun j => (V j : Int))), .slice (some ⟨w.heap.size + 1 + 1, 0, none⟩) 128 128] W fun e w' => e = .returned (.agg (vals .u64 8 (fun j => (X j : Int)))) ∧ Below W.heap.size W w') := Lib.hid (fun W hr => by
      have h := rblocks_w V hVl.out (some ⟨w.heap.size + 1 + 1, 0, none⟩) 128 128 (by omega) (by omega) h' W (reads_row hr) HHb.out
      rw [show (128 : Nat) / 128 = 1 from rfl, ← hX.out] at h
      exact h)
    have he := fun W => (eq8 (fun j => (X j : Int)) (fun j => (X j : Int)) W).trans (by rw [allEq_true fun _ _ => rfl])
    go_wp2
    have Q0 : Hid (Below w.heap.size w wc.drew ∧ (hasRow wc.drew w.heap.size 8 ∧ rowAt wc.drew w.heap.size = vals .u64 8 (fun j => (f j : Int))) ∧ (hasRow wc.drew (w.heap.size + 1) 128 ∧ rowAt wc.drew (w.heap.size + 1) = vals .u8 128 g') ∧ (hasRow wc.drew (w.heap.size + 2) 128 ∧ rowAt wc.drew (w.heap.size + 2) = vals .u8 128 h') ∧ (hasRow wc.drew gx 8 ∧ rowAt wc.drew gx = vals .u64 8 (fun j => (X j : Int)))) := Lib.hid ⟨bl_drew R0.out.1, R0.out.2.2.1, R0.out.2.2.2.1, R0.out.2.2.2.2, RX.out⟩
    clear R0 RX
    go_region_held3 (fun W => Below w.heap.size w W ∧ (hasRow W w.heap.size 8 ∧ rowAt W w.heap.size = vals .u64 8 (fun j => (f j : Int))) ∧ (hasRow W (w.heap.size + 1) 128 ∧ rowAt W (w.heap.size + 1) = vals .u8 128 g') ∧ (hasRow W (w.heap.size + 2) 128 ∧ rowAt W (w.heap.size + 2) = vals .u8 128 h') ∧ (hasRow W gx 8 ∧ rowAt W gx = vals .u64 8 (fun j => (X j : Int)))) (first | assumption | exact Q0.out | exact Q1.out | exact Q2.out | exact Q3.out | exact Q4.out) (first | (go_at_call 12; (with_reducible refine (CB1.out _ Q0.out.1 Q0.out.2.2.1).mono ?_); rintro e w3 ⟨rfl, hb⟩; have Q1 := Lib.hid (keepD Q0.out hb); clear hb) | (go_at_call 12; (with_reducible refine (CB2.out _ Q1.out.1 Q1.out.2.2.2.1).mono ?_); rintro e w4 ⟨rfl, hb⟩; have Q2 := Lib.hid (keepD Q1.out hb); clear hb) | (go_at_call 13; (with_reducible refine (CR1.out _ Q2.out.2.2.1).mono ?_); rintro e w5 ⟨rfl, hb⟩; have Q3 := Lib.hid (keepD Q2.out hb); clear hb) | (go_at_call 13; (with_reducible refine (CR2.out _ Q3.out.2.2.2.1).mono ?_); rintro e w6 ⟨rfl, hb⟩; have Q4 := Lib.hid (keepD Q3.out hb); clear hb))
    all_goals go_wp2
    all_goals go_ret
    all_goals exact ⟨rfl, Q4.out.1⟩
end Go.Proofs.YtcpmamnoaiaieaaDoor
