/- Part 14 of 20 of what the proof of this law needs. Merged by merge.py out of: CoK CoL CoM CoN CoQ. -/
import Derived.Test.YtfnncplokombgaaDoorShortChainsAll13
import Derived.Conc.SmallLaws
/- What a call does in company, out of what it does alone (38): the receiver of schedules: its loop. -/
namespace Go.Proofs.YtfnncplokombgaaDoor
open Go Go.Conc

theorem p12_5_is : p12_5 = .region 5 (cO p12_5) false := by kernel_rfl
theorem op12_5a : ∃ o, (cO p12_5)[0]? = some o ∧ o.op = .recv 45 (.tmp 16) true ∧ o.dst = some 17 ∧ o.guard = none := ⟨_, rfl, rfl, rfl, rfl⟩
theorem op12_5b : ∃ o, (cO p12_5)[1]? = some o ∧ o.op = .extract (.tmp 17) 1 ∧ o.dst = some 18 ∧ o.guard = none := ⟨_, rfl, rfl, rfl, rfl⟩
/-- no schedule -/
def zeroS : Value := .agg (vals .u32 64 (fun _ => 0))
theorem run_recv {a : Act} {o : Oper} {c : Nat} (hop : o.op = .recv 45 (.tmp 16) true) (hx : a.eval (.tmp 16) = .chan (some c)) (w : World) : (execOp a.eval o).run Tryd.prog w = .ok (.comm #[rcase c zeroS] true (.recv true)) w ∧ (execOp a.eval o).events Tryd.prog w #[] = #[] := by
  have hz := zv64w w
  unfold execOp
  simp only [hop, hx]
  constructor
  · simp [go_sem, hz, rcase, zeroS]
  · simp [go_sem]
theorem run_extract {P : Program} {a : Act} {o : Oper} {x y : Value} (hop : o.op = .extract (.tmp 17) 1) (hx : a.eval (.tmp 17) = .tuple #[x, y]) (w : World) : (execOp a.eval o).run P w = .ok (.value y) w ∧ (execOp a.eval o).events P w #[] = #[] := by
  unfold execOp
  simp only [hop, hx]
  constructor
  · simp [go_sem]
  · simp [go_sem]

/-! ### where the receiver stands -/
/-- what the receiver has of the world: its value, its table, the result's cell; all that was there ahead of the call -/
structure MI (S : BSet) (vb kb rb : Nat) (w0 : World) (B : Nat → Nat) (O : BSet) (w : World) : Prop where
  ov : O vb
  ok : O kb
  orr : O rb
  rowv : ∃ t, RowC w vb (vals .u32 8 (fun j => (B j : Int))) t
  rowk : ∃ t, RowC w kb (vals .u32 64 (fun j => (k32c j : Int))) t
  rowr : ∃ t, RowC w rb (vals .u32 8 (fun _ => 0)) t
  tabs : Tabs32 w
  tame : ∀ g, niceG.contains g = true → Tame w g
  kept : Kept w0 w
  cover : ∀ b, b < w0.heap.size → O b ∨ S b
/-- whose numbers are whose -/
structure MGeo (S : BSet) (vb kb rb : Nat) (w0 : World) : Prop where
  tabs : ∀ g, niceG.contains g = true → S g
  vk : vb ≠ kb
  vr : vb ≠ rb
  kr : kb ≠ rb
  lv : w0.heap.size ≤ vb
  lk : w0.heap.size ≤ kb
  lr : w0.heap.size ≤ rb
  low : 2 < w0.heap.size
section
variable {S : BSet} {vb kb rb c n : Nat} {w0 w w1 : World} {B : Nat → Nat} {O O1 : BSet}
theorem MI.stab (ge : MGeo S vb kb rb w0) : Stab S (MI S vb kb rb w0 B) := by
  intro O w w1 h R
  obtain ⟨t1, h1⟩ := h.rowv
  obtain ⟨t2, h2⟩ := h.rowk
  obtain ⟨t3, h3⟩ := h.rowr
  have hs : ∀ g, niceG.contains g = true → w1.heap[g]? = w.heap[g]? := fun g hg => R.keep g (.inr (ge.tabs g hg))
  exact ⟨h.ov, h.ok, h.orr, ⟨t1, h1.of_eq (R.keep vb (.inl h.ov))⟩, ⟨t2, h2.of_eq (R.keep kb (.inl h.ok))⟩, ⟨t3, h3.of_eq (R.keep rb (.inl h.orr))⟩,
    ⟨fun i hi => by rw [heap_cell (hs _ rfl)]; exact h.tabs.1 i hi, fun i hi => by rw [heap_cell (hs _ rfl)]; exact h.tabs.2 i hi⟩,
    fun g hg => by obtain ⟨a, b, d, e⟩ := h.tame g hg; exact ⟨a, b, d, by rw [hs g hg]; exact e⟩,
    ⟨R.os.trans h.kept.os, R.output.trans h.kept.output, R.tape.trans h.kept.tape, Nat.le_trans h.kept.size R.size, fun b hb => (R.keep b (h.cover b hb)).trans (h.kept.keep b hb)⟩, h.cover⟩
theorem nice_of {g : Nat} (hg : niceG.contains g = true) : g = 0 ∨ g = 1 ∨ g = 2 := by simpa [niceG] using hg
theorem MI.meet (h : MI S vb kb rb w0 B O w) (ge : MGeo S vb kb rb w0) : Meet S O [0, 1, 2, vb, kb, rb] [0, 1, 2] w where
  tabs := fun g hg => by rcases nice_of hg with rfl | rfl | rfl <;> simp
  tame := fun b hb => by
    simp at hb
    rcases hb with rfl | rfl | rfl | rfl | rfl | rfl
    · exact h.tame 0 rfl
    · exact h.tame 1 rfl
    · exact h.tame 2 rfl
    · exact h.rowv.choose_spec.tame
    · exact h.rowk.choose_spec.tame
    · exact h.rowr.choose_spec.tame
  own := fun b hb => by
    simp at hb
    rcases hb with rfl | rfl | rfl | rfl | rfl | rfl
    · exact .inr ⟨ge.tabs 0 rfl, by simp⟩
    · exact .inr ⟨ge.tabs 1 rfl, by simp⟩
    · exact .inr ⟨ge.tabs 2 rfl, by simp⟩
    · exact .inl h.ov
    · exact .inl h.ok
    · exact .inl h.orr
  thaw := fun b hb hn off => by
    simp at hb hn
    have : b = vb ∨ b = kb ∨ b = rb := by omega
    rcases this with rfl | rfl | rfl
    · exact h.rowv.choose_spec.2 off
    · exact h.rowk.choose_spec.2 off
    · exact h.rowr.choose_spec.2 off
theorem MI.lone (h : MI S vb kb rb w0 B O w) (ge : MGeo S vb kb rb w0) {W : World} (hW : W.heap = (ice [0, 1, 2, vb, kb, rb] [0, 1, 2] w).heap) :
    Tabs32 W ∧ (hasRow W vb 8 ∧ rowAt W vb = vals .u32 8 (fun j => (B j : Int))) ∧ (hasRow W kb 64 ∧ rowAt W kb = vals .u32 64 (fun j => (k32c j : Int))) ∧ hasRow W rb 8 ∧ ∃ t, W.heap[kb]? = some (.cells (vals .u32 64 (fun j => (k32c j : Int))) t (0, 0)) ∧ ∃ t2, W.heap[rb]? = some (.cells (vals .u32 8 (fun _ => 0)) t2 (0, 0)) := by
  have hc : ∀ (a : Addr) (k : IntKind) (n : Int), w.cell? a = some (.int k n) → W.cell? a = some (.int k n) := fun a k n hv => by
    rw [← ice_cell [0, 1, 2, vb, kb, rb] [0, 1, 2] hv (.int k n)]
    exact heap_cell (by rw [hW])
  have hrow : ∀ (b : Nat) (m : Nat) (k : IntKind) (f : Nat → Int) (t : TypeId), b ∈ [0, 1, 2, vb, kb, rb] → b ∉ [0, 1, 2] → RowC w b (vals k m f) t → W.heap[b]? = some (.cells (vals k m f) t (0, 0)) := fun b m k f t hb hn hr => by
    obtain ⟨fr, h1⟩ := hr.1
    rw [hW]
    exact ice_row _ _ hb hn h1 (vrel_vals _ _ _ _)
  have hl := ge.low
  obtain ⟨t1, h1⟩ := h.rowv
  obtain ⟨t2, h2⟩ := h.rowk
  obtain ⟨t3, h3⟩ := h.rowr
  have e1 := hrow vb 8 _ _ t1 (by simp) (by have := ge.lv; simp; omega) h1
  have e2 := hrow kb 64 _ _ t2 (by simp) (by have := ge.lk; simp; omega) h2
  have e3 := hrow rb 8 _ _ t3 (by simp) (by have := ge.lr; simp; omega) h3
  refine ⟨⟨fun i hi => hc _ _ _ (h.tabs.1 i hi), fun i hi => hc _ _ _ (h.tabs.2 i hi)⟩, ⟨⟨_, t1, e1, vals_size _ _ _⟩, by unfold rowAt; rw [e1]⟩, ⟨⟨_, t2, e2, vals_size _ _ _⟩, by unfold rowAt; rw [e2]⟩, ⟨_, t3, e3, vals_size _ _ _⟩, t2, e2, t3, e3⟩
/-- the slots that are kept -/
structure MT (vb kb rb c : Nat) (T : Array Value) : Prop where
  size : T.size = 46
  s2 : T[2]? = some (.pointer (some ⟨vb, 0, none⟩))
  s4 : T[4]? = some (.pointer (some ⟨rb, 0, none⟩))
  s5 : T[5]? = some (.pointer (some ⟨kb, 0, none⟩))
  s16 : T[16]? = some (.chan (some c))
theorem MT.set {T : Array Value} (h : MT vb kb rb c T) {i : Nat} (v : Value) (h1 : i ≠ 2) (h2 : i ≠ 4) (h3 : i ≠ 5) (h4 : i ≠ 16) : MT vb kb rb c (T.setIfInBounds i v) :=
  ⟨by simpa using h.size, by rw [Array.getElem?_setIfInBounds_ne h1]; exact h.s2, by rw [Array.getElem?_setIfInBounds_ne h2]; exact h.s4, by rw [Array.getElem?_setIfInBounds_ne h3]; exact h.s5, by rw [Array.getElem?_setIfInBounds_ne h4]; exact h.s16⟩
theorem kind12 : (base 12).kind ≠ .early := by intro h; cases h
/-- the body of the loop, in company -/
theorem body_step {X : BSet → Goroutine → World → Prop} (hXc : Closed Tryd.prog true S X) (ge : MGeo S vb kb rb w0) (hB : ∀ j, j < 8 → B j < 4294967296) {T' : Array Value} (ht : MT vb kb rb c T') {sv : Nat → Nat} (h17 : T'[17]? = some (.tuple #[.agg (vals .u32 64 (fun j => (sv j : Int))), .bool true])) {k : List Item} {cs : List Frame}
    (h : ∀ T' : Array Value, MT vb kb rb c T' → All X (MI S vb kb rb w0 (blockS B sv)) (G ((base 12).at ⟨T', []⟩ k) cs)) : All X (MI S vb kb rb w0 B) (G ((base 12).at ⟨T', []⟩ (.code B12 :: k)) cs) := by
  intro O w hi
  have hl := ge.low
  have hv2 := ge.lv
  obtain ⟨l1, l2, l3, l4, tk, l5, tr, l6⟩ := hi.lone ge (W := ice [0, 1, 2, vb, kb, rb] [0, 1, 2] w) rfl
  refine code_piece progOk hXc [0, 1, 2, vb, kb, rb] [0, 1, 2] (fun i => i = 2 ∨ i = 4 ∨ i = 5 ∨ i = 16 ∨ i = 17) (hi.meet ge) ?_ ⟨fun _ => rfl, fun h => absurd rfl h⟩ (by kernel_rfl)
    (fun TE H => TE.size = 46 ∧ TE[2]? = some (.pointer (some ⟨vb, 0, none⟩)) ∧ TE[4]? = some (.pointer (some ⟨rb, 0, none⟩)) ∧ TE[5]? = some (.pointer (some ⟨kb, 0, none⟩)) ∧ TE[16]? = some (.chan (some c)) ∧ (∃ t, H[vb]? = some (.cells (vals .u32 8 (fun j => (blockS B sv j : Int))) t (0, 0))) ∧ H[kb]? = some (.cells (vals .u32 64 (fun j => (k32c j : Int))) tk (0, 0)) ∧ H[rb]? = some (.cells (vals .u32 8 (fun _ => 0)) tr (0, 0)))
    (fun T W hT hkp hW => ?_) ?_
  · rintro i v (rfl | rfl | rfl | rfl | rfl) hv
    · rw [ht.s2] at hv; rw [← Option.some.inj hv]; exact vrel_ptr (by simp)
    · rw [ht.s4] at hv; rw [← Option.some.inj hv]; exact vrel_ptr (by simp)
    · rw [ht.s5] at hv; rw [← Option.some.inj hv]; exact vrel_ptr (by simp)
    · rw [ht.s16] at hv; rw [← Option.some.inj hv]; exact .chan c
    · rw [h17] at hv
      rw [← Option.some.inj hv]
      refine .tuple _ _ rfl fun i h1 _ => ?_
      have hi2 : i = 0 ∨ i = 1 := by simp at h1; omega
      rcases hi2 with rfl | rfl
      · exact .agg _ _ rfl fun i h1 _ => vrel_vals _ _ _ _ _ (Array.getElem_mem h1)
      · exact .bool true
  · obtain ⟨x0, x1, x2, x3, x4, x5, x6, x7, x8, x9, x10, x11, x12, x13, x14, x15, x16, x17, x18, x19, x20, x21, x22, x23, x24, x25, x26, x27, x28, x29, x30, x31, x32, x33, x34, x35, x36, x37, x38, x39, x40, x41, x42, x43, x44, x45, rfl⟩ := lit46 (hT.trans ht.size)
    obtain rfl : x2 = _ := Option.some.inj ((hkp 2 (by simp)).trans ht.s2)
    obtain rfl : x4 = _ := Option.some.inj ((hkp 4 (by simp)).trans ht.s4)
    obtain rfl : x5 = _ := Option.some.inj ((hkp 5 (by simp)).trans ht.s5)
    obtain rfl : x16 = _ := Option.some.inj ((hkp 16 (by simp)).trans ht.s16)
    obtain rfl : x17 = _ := Option.some.inj ((hkp 17 (by simp)).trans h17)
    obtain ⟨m1, m2, m3, _⟩ := hi.lone ge hW
    have hws : W.heap.size = w.heap.size := by rw [hW, ice_size]
    have hks : kb < W.heap.size := lt_of_hasRow m3.1
    have hrs : rb < W.heap.size := by rw [hW]; exact (Array.getElem?_eq_some_iff.1 l6).1
    refine Go.wp_mono (body_wp x0 x1 x3 (.pointer (some ⟨rb, 0, none⟩)) x6 x7 x8 x9 x10 x11 x12 x13 x14 x15 (.chan (some c)) x18 x19 x20 x21 x22 x23 x24 x25 x26 x27 x28 x29 x30 x31 x32 x33 x34 x35 x36 x37 x38 x39 x40 x41 x42 x43 x44 x45 vb kb B sv W ge.vk (by omega) m2 m3 hB m1) fun e a' w' ⟨q1, q2, q3, q4, q5, q6, q7, q8, q9⟩ => ⟨q1, q2, q3, q4, q5, q6, q7, q8, ?_, ?_⟩
    · rw [q9 kb hks ge.vk.symm, hW]; exact l5
    · rw [q9 rb hrs ge.vr.symm, hW]; exact l6
  · rintro σ O1 TE TE' WE wE p hT hH _ ⟨r1, r2, r3, r4, r5, ⟨tv, r6⟩, r7, r8⟩
    have M := hi.meet ge
    have hs : ∀ g, niceG.contains g = true → wE.heap[g]? = w.heap[g]? := fun g hg => by
      have := nice_of hg
      exact path_stiff M p (by simp; omega) (by simp; omega)
    have hfx : ∀ (k : IntKind) (m : Nat) (f : Nat → Int), ∀ v ∈ vals k m f, Fixed σ v := fun k m f v hv => by
      obtain ⟨i, hi, e⟩ := Array.mem_iff_getElem.1 hv
      rw [← e, vals_get]
      exact fixed_int _ _ _
    refine h TE' ⟨hT.1.symm.trans r1, hT.fixed r2 (fixed_ptr hH.fine (path_id p (by simp))), hT.fixed r3 (fixed_ptr hH.fine (path_id p (by simp))), hT.fixed r4 (fixed_ptr hH.fine (path_id p (by simp))), hT.fixed r5 (fixed_chan _ _)⟩ O1 wE
      ⟨p.own _ hi.ov, p.own _ hi.ok, p.own _ hi.orr, ⟨tv, hH.rowC (path_id p (by simp)) r6 (hfx _ _ _)⟩, ⟨tk, hH.rowC (path_id p (by simp)) r7 (hfx _ _ _)⟩, ⟨tr, hH.rowC (path_id p (by simp)) r8 (hfx _ _ _)⟩,
        ⟨fun i hi2 => by rw [heap_cell (hs _ rfl)]; exact hi.tabs.1 i hi2, fun i hi2 => by rw [heap_cell (hs _ rfl)]; exact hi.tabs.2 i hi2⟩,
        fun g hg => by obtain ⟨a, b, d, e⟩ := hi.tame g hg; exact ⟨a, b, d, by rw [hs g hg]; exact e⟩,
        ⟨p.os.trans hi.kept.os, p.output.trans hi.kept.output, p.tape.trans hi.kept.tape, Nat.le_trans hi.kept.size p.size, fun b hb => ?_⟩, fun b hb => (hi.cover b hb).imp (p.own b) id⟩
    have hb2 : b < w.heap.size := Nat.lt_of_lt_of_le hb hi.kept.size
    refine Eq.trans ?_ (hi.kept.keep b hb)
    by_cases hn : niceG.contains b = true
    · exact hs b hn
    · refine path_out p (fun hm => ?_) hb2 (hi.cover b hb)
      have h1 := ge.lv
      have h2 := ge.lk
      have h3 := ge.lr
      simp [niceG] at hn
      simp at hm
      omega
end
end Go.Proofs.YtfnncplokombgaaDoor

/- What a call does in company, out of what it does alone (39): the receiver's loop, whole; its end. -/
namespace Go.Proofs.YtfnncplokombgaaDoor
open Go Go.Conc

theorem step_code {P : Program} {m : Bool} {b : Frame} {a : Act} {k : List Item} {cs : List Frame} {w : World} {x y z : Code} (h : x = .seq y z) : stepG P m (G (b.at a (.code x :: k)) cs) w = .go (G (b.at a (.code y :: .code z :: k)) cs) w #[] := by
  subst h
  exact stepG_seq
theorem step_reg {P : Program} {m : Bool} {b : Frame} {a : Act} {k : List Item} {cs : List Frame} {w : World} {x : Code} {id : Nat} {ops : Array Oper} {l : List Nat} (h : x = .region id ops false) (hl : List.range ops.size = l) : stepG P m (G (b.at a (.code x :: k)) cs) w = .go (G (b.at a (.inRegion ops l :: k)) cs) w #[] := by
  subst h hl
  exact stepG_region
section
variable {S : BSet} {vb kb rb c n : Nat} {w0 w w1 : World} {B : Nat → Nat} {O O1 : BSet} {Post : Value → World → Prop}
theorem blockS_is (v : Nat → Nat) (f : Nat → Int) (i : Nat) : blockS (blocks32 v f i) (sched32 (word32 (fun j => f (64 * i + j)))) = blocks32 v f (i + 1) := by
  rw [blocks32]
  have e : (fun j => f (64 * i + j)) = fun j => f (i * 64 + j) := by
    funext j
    rw [Nat.mul_comm]
  rw [e]
  rfl
/-- the receiver's loop -/
theorem receiver_loop (ge : MGeo S vb kb rb w0) (v : Nat → Nat) (hv : ∀ j, j < 8 → v j < 4294967296) (f : Nat → Int) {cs : List Frame}
    (hEnd : ∀ O w (T' : Array Value), MI S vb kb rb w0 (blocks32 v f n) O w → MT vb kb rb c T' → RunsOn Tryd.prog Post (G ((base 12).at ⟨T', []⟩ [.code (.seq p12_18 .ret)]) cs) w) :
    ∀ (r i : Nat) (T' : Array Value), i + r = n → MT vb kb rb c T' →
      All (PlanM Tryd.prog S c n zeroS (schedV f) (fun _ g w => RunsOn Tryd.prog Post g w) i) (MI S vb kb rb w0 (blocks32 v f i)) (G ((base 12).at ⟨T', []⟩ [.code L12, .inLoop L12, .inBlock 0, .code (.seq p12_18 .ret)]) cs) := by
  intro r
  have hr : List.range (cO p12_5).size = [0, 1] := by kernel_rfl
  obtain ⟨o1, a1, a2, a3, a4⟩ := op12_5a
  obtain ⟨o2, b1, b2, b3, b4⟩ := op12_5b
  induction r with
  | zero =>
    intro i T' hi ht
    have hX := PlanM.closed (P := Tryd.prog) (S := S) (c := c) (n := n) (z := zeroS) (vals := schedV f) (K := fun _ g w => RunsOn Tryd.prog Post g w) i
    have hst := MI.stab (B := blocks32 v f i) ge
    refine All.ctl hX hst (fun w => step_code L12_is) (All.ctl hX hst (fun w => step_reg p12_5_is hr) ?_)
    intro O w hI
    have hrv := fun w1 : World => run_recv (a := ⟨T', []⟩) a2 (eval_tmp ht.s16) w1
    refine .recv rfl (fun w1 _ => ?_) (fun h => absurd h (by omega)) (fun _ w1 R => ?_)
    · have := stepG_comm (P := Tryd.prog) (main := true) (b := base 12) (rest := [1]) (k := [.code (.seq (.cond (.tmp 18) .skip (.exit 0)) (.block 1 B12)), .inLoop L12, .inBlock 0, .code (.seq p12_18 .ret)]) (cs := cs) a1 (wanted_none a4 _) kind12 (hrv w1).1
      refine Eq.trans this ?_
      unfold listed
      rw [(hrv w1).2, seen_none]
    · rw [served_at _ a1, a3]
      have ht2 := ht.set (i := 17) (.tuple #[zeroS, .bool false]) (by decide) (by decide) (by decide) (by decide)
      have e17 : (T'.setIfInBounds 17 (.tuple #[zeroS, .bool false]))[17]? = some (.tuple #[zeroS, .bool false]) := Array.getElem?_setIfInBounds_self_of_lt (by rw [ht.size]; decide)
      show RunsOn Tryd.prog Post (G ((base 12).at ⟨T'.setIfInBounds 17 (.tuple #[zeroS, .bool false]), []⟩ _) cs) w1
      generalize T'.setIfInBounds 17 (.tuple #[zeroS, .bool false]) = T2 at ht2 e17
      have hre := fun w1 : World => run_extract (P := Tryd.prog) (a := ⟨T2, []⟩) b2 (eval_tmp e17) w1
      refine run_val (a := ⟨T2, []⟩) (.bool false) b1 (wanted_none b4 _) kind12 (fun d => (hre _).1) (fun d => (hre _).2) ⟨Nat.le_refl _, rfl, rfl, rfl⟩ ?_
      rw [b3]
      have ht3 := ht2.set (i := 18) (.bool false) (by decide) (by decide) (by decide) (by decide)
      have e18 : (T2.setIfInBounds 18 (.bool false))[18]? = some (.bool false) := Array.getElem?_setIfInBounds_self_of_lt (by rw [ht2.size]; decide)
      show RunsOn Tryd.prog Post (G ((base 12).at ⟨T2.setIfInBounds 18 (.bool false), []⟩ _) cs) w1
      generalize T2.setIfInBounds 18 (.bool false) = T3 at ht3 e18
      refine run_ctl (fun w => stepG_region_end) (run_ctl (fun w => stepG_seq) (run_ctl (fun w => stepG_cond (eval_tmp e18)) ?_))
      rw [if_neg (by decide)]
      refine run_ctl (fun w => stepG_exit (k' := [.code (.seq p12_18 .ret)]) (by simp [exitTo])) ?_
      have hin : i = n := by omega
      subst hin
      exact hEnd O w1 T3 (hst O w w1 hI R) ht3
  | succ r ih =>
    intro i T' hi ht
    have hX := PlanM.closed (P := Tryd.prog) (S := S) (c := c) (n := n) (z := zeroS) (vals := schedV f) (K := fun _ g w => RunsOn Tryd.prog Post g w) i
    have hX2 := PlanM.closed (P := Tryd.prog) (S := S) (c := c) (n := n) (z := zeroS) (vals := schedV f) (K := fun _ g w => RunsOn Tryd.prog Post g w) (i + 1)
    have hst := MI.stab (B := blocks32 v f i) ge
    have hst2 := MI.stab (B := blocks32 v f (i + 1)) ge
    refine All.ctl hX hst (fun w => step_code L12_is) (All.ctl hX hst (fun w => step_reg p12_5_is hr) ?_)
    intro O w hI
    have hrv := fun w1 : World => run_recv (a := ⟨T', []⟩) a2 (eval_tmp ht.s16) w1
    refine .recv rfl (fun w1 _ => ?_) (fun _ => ?_) (fun h => absurd h (by omega))
    · have := stepG_comm (P := Tryd.prog) (main := true) (b := base 12) (rest := [1]) (k := [.code (.seq (.cond (.tmp 18) .skip (.exit 0)) (.block 1 B12)), .inLoop L12, .inBlock 0, .code (.seq p12_18 .ret)]) (cs := cs) a1 (wanted_none a4 _) kind12 (hrv w1).1
      refine Eq.trans this ?_
      unfold listed
      rw [(hrv w1).2, seen_none]
    · rw [served_at _ a1, a3]
      have ht2 := ht.set (i := 17) (.tuple #[schedV f i, .bool true]) (by decide) (by decide) (by decide) (by decide)
      have e17 : (T'.setIfInBounds 17 (.tuple #[schedV f i, .bool true]))[17]? = some (.tuple #[schedV f i, .bool true]) := Array.getElem?_setIfInBounds_self_of_lt (by rw [ht.size]; decide)
      show PlanM Tryd.prog S c n zeroS (schedV f) (fun _ g w => RunsOn Tryd.prog Post g w) (i + 1) O (G ((base 12).at ⟨T'.setIfInBounds 17 (.tuple #[schedV f i, .bool true]), []⟩ _) cs) w
      generalize T'.setIfInBounds 17 (.tuple #[schedV f i, .bool true]) = T2 at ht2 e17
      have hre := fun w1 : World => run_extract (P := Tryd.prog) (a := ⟨T2, []⟩) b2 (eval_tmp e17) w1
      refine All.val hX2 hst (a := ⟨T2, []⟩) (.bool true) b1 (wanted_none b4 _) kind12 (fun w => (hre w).1) (fun w => (hre w).2) ?_ O w hI
      rw [b3]
      have ht3 := ht2.set (i := 18) (.bool true) (by decide) (by decide) (by decide) (by decide)
      have e18 : (T2.setIfInBounds 18 (.bool true))[18]? = some (.bool true) := Array.getElem?_setIfInBounds_self_of_lt (by rw [ht2.size]; decide)
      have e17' : (T2.setIfInBounds 18 (.bool true))[17]? = some (.tuple #[schedV f i, .bool true]) := by rw [Array.getElem?_setIfInBounds_ne (by decide)]; exact e17
      show All _ _ (G ((base 12).at ⟨T2.setIfInBounds 18 (.bool true), []⟩ _) cs)
      generalize T2.setIfInBounds 18 (.bool true) = T3 at ht3 e18 e17'
      refine All.ctl hX2 hst (fun w => stepG_region_end) (All.ctl hX2 hst (fun w => stepG_seq) (All.ctl hX2 hst (fun w => stepG_cond (eval_tmp e18)) ?_))
      rw [if_pos rfl]
      refine All.ctl hX2 hst (fun w => stepG_skip) (All.ctl hX2 hst (fun w => stepG_block) ?_)
      refine body_step hX2 ge (blocks32_lt v f hv i) ht3 e17' fun T' ht' => ?_
      rw [blockS_is]
      exact All.ctl hX2 hst2 (fun w => stepG_inBlock) (All.ctl hX2 hst2 (fun w => stepG_inLoop) (ih (i + 1) T' (by omega) ht'))
end
end Go.Proofs.YtfnncplokombgaaDoor

/- What a call does in company, out of what it does alone (40): the ends of short.Blocks. -/
namespace Go.Proofs.YtfnncplokombgaaDoor
open Go Go.Conc

section
variable {S : BSet} {vb kb rb c n : Nat} {w0 w w1 : World} {B : Nat → Nat} {O O1 : BSet} {Post : Value → World → Prop}
theorem kept_path {σ : BRel} {L Ls : List Nat} {WE wE : World} (M : Meet S O L Ls w) (p : Path (idL L) σ O S O1 (ice L Ls w) WE w wE) (hk : Kept w0 w) (hO : ∀ b, b < w0.heap.size → O b ∨ S b) (h : ∀ b, b ∈ L → b < w0.heap.size → b ∈ Ls) : Kept w0 wE := by
  refine ⟨p.os.trans hk.os, p.output.trans hk.output, p.tape.trans hk.tape, Nat.le_trans hk.size p.size, fun b hb => ?_⟩
  refine Eq.trans ?_ (hk.keep b hb)
  by_cases hL : b ∈ L
  · exact path_stiff M p hL (h b hL hb)
  · exact path_out p hL (Nat.lt_of_lt_of_le hb hk.size) (hO b hb)
theorem Meet.alone {L Ls : List Nat} (M : Meet S O L Ls w) : Meet botB topB L Ls w := ⟨M.tabs, M.tame, fun _ _ => .inl trivial, M.thaw⟩
/-- the end of short.Blocks -/
theorem blocks_end (ge : MGeo S vb kb rb w0) {c0 : Frame} {cs : List Frame} (cont : ∀ w', Kept w0 w' → RunsOn Tryd.prog Post (G (c0.finish (.agg (vals .u32 8 (fun j => (B j : Int))))) cs) w') (hi : MI S vb kb rb w0 B O w) {T' : Array Value} (ht : MT vb kb rb c T') :
    RunsOn Tryd.prog Post (G ((base 12).at ⟨T', []⟩ [.code (.seq p12_18 .ret)]) (c0 :: cs)) w := by
  refine run_ctl (fun w => stepG_seq) ?_
  have hXc := RunsOn.closed (P := Tryd.prog) (Post := Post) botB
  have M := (hi.meet ge).alone
  refine code_piece (X := fun _ g w => RunsOn Tryd.prog Post g w) (O := topB) progOk hXc [0, 1, 2, vb, kb, rb] [0, 1, 2] (fun i => i = 2 ∨ i = 4) M ?_ ⟨fun _ => rfl, fun h => absurd rfl h⟩ (by kernel_rfl)
    (fun TE H => TE.size = 46 ∧ TE[4]? = some (.pointer (some ⟨rb, 0, none⟩)) ∧ ∃ t, H[rb]? = some (.cells (vals .u32 8 (fun j => (B j : Int))) t (0, 0))) (fun T W hT hkp hW => ?_) ?_
  · rintro i v (rfl | rfl) hv
    · rw [ht.s2] at hv; rw [← Option.some.inj hv]; exact vrel_ptr (by simp)
    · rw [ht.s4] at hv; rw [← Option.some.inj hv]; exact vrel_ptr (by simp)
  · obtain ⟨x0, x1, x2, x3, x4, x5, x6, x7, x8, x9, x10, x11, x12, x13, x14, x15, x16, x17, x18, x19, x20, x21, x22, x23, x24, x25, x26, x27, x28, x29, x30, x31, x32, x33, x34, x35, x36, x37, x38, x39, x40, x41, x42, x43, x44, x45, rfl⟩ := lit46 (hT.trans ht.size)
    obtain rfl : x2 = _ := Option.some.inj ((hkp 2 (by simp)).trans ht.s2)
    obtain rfl : x4 = _ := Option.some.inj ((hkp 4 (by simp)).trans ht.s4)
    obtain ⟨m1, m2, m3, m4, _⟩ := hi.lone ge hW
    exact w12_18 x0 x1 x3 x5 x6 x7 x8 x9 x10 x11 x12 x13 x14 x15 x16 x17 x18 x19 x20 x21 x22 x23 x24 x25 x26 x27 x28 x29 x30 x31 x32 x33 x34 x35 x36 x37 x38 x39 x40 x41 x42 x43 x44 x45 vb rb B W m2 m4
  · rintro σ O1 TE TE' WE wE p hT hH _ ⟨r1, r2, t, r3⟩
    have hk1 : Kept w0 wE := kept_path M p hi.kept (fun _ _ => .inl trivial) (fun b hb hl => by
      have h1 := ge.lv
      have h2 := ge.lk
      have h3 := ge.lr
      simp at hb ⊢
      omega)
    have hrow : RowC wE rb (vals .u32 8 (fun j => (B j : Int))) t := hH.rowC (path_id p (by simp)) r3 (fun v hv => by
      obtain ⟨i, hi, e⟩ := Array.mem_iff_getElem.1 hv
      rw [← e, vals_get]
      exact fixed_int _ _ _)
    have t4 := hT.fixed r2 (fixed_ptr hH.fine (path_id p (by simp)))
    have htame : ∀ g, niceG.contains g = true → Tame wE g := fun g hg => by
      obtain ⟨a, b, d, e⟩ := hi.tame g hg
      have := nice_of hg
      exact ⟨a, b, d, by rw [path_stiff M p (by simp; omega) (by simp; omega)]; exact e⟩
    refine run_ctl (fun w => stepG_ret') ?_
    have M2 : Meet botB topB [0, 1, 2, rb] [0, 1, 2] wE := by
      refine ⟨fun g hg => by have := nice_of hg; simp; omega, fun b hb => ?_, fun _ _ => .inl trivial, fun b hb hn off => ?_⟩
      · simp at hb
        rcases hb with rfl | rfl | rfl | rfl
        · exact htame 0 rfl
        · exact htame 1 rfl
        · exact htame 2 rfl
        · exact hrow.tame
      · simp at hb hn
        have : b = rb := by omega
        subst this
        exact hrow.2 off
    refine leave_piece (X := fun _ g w => RunsOn Tryd.prog Post g w) (O := topB) (b := base 12) hXc [0, 1, 2, rb] [0, 1, 2] (fun i => i = 4) M2 ?_ rfl Tryd.func12 (v := .agg (vals .u32 8 (fun j => (B j : Int)))) (fun T W hsz hkp hW => ?_) (fun σ => fixed_vals σ _ _ _) ?_
    · rintro i v rfl hv
      rw [t4] at hv; rw [← Option.some.inj hv]; exact vrel_ptr (by simp)
    · obtain ⟨fr, h1⟩ := hrow.1
      have hl := ge.low
      have h3 := ge.lr
      have e := ice_row [0, 1, 2, rb] [0, 1, 2] (by simp) (by simp; omega) h1 (vrel_vals _ _ _ _)
      rw [← hW] at e
      have := results_row (P := Tryd.prog) (w := W) arr8 (fn := Tryd.f12) rfl T rb (by rw [Array.getD_eq_getD_getElem?, hkp 4 rfl, t4]; rfl) ⟨_, t, e, vals_size _ _ _⟩
      rw [this]
      unfold rowAt
      rw [e]
    · intro σ2 O2 WE2 wE2 p2
      exact cont wE2 (kept_path M2 p2 hk1 (fun _ _ => .inl trivial) (fun b hb hl => by
        have h3 := ge.lr
        simp at hb ⊢
        omega))
end
end Go.Proofs.YtfnncplokombgaaDoor

/- What a call does in company, out of what it does alone (41): single operations of short.Blocks and of schedules. -/
namespace Go.Proofs.YtfnncplokombgaaDoor
open Go Go.Conc

theorem p12_0_is : p12_0 = .region 0 (cO p12_0) false := by kernel_rfl
theorem p12_1_is : p12_1 = .region 1 (cO p12_1) false := by kernel_rfl
theorem p12_2_is : p12_2 = .region 2 (cO p12_2) false := by kernel_rfl
theorem p12_4_is : p12_4 = .region 4 (cO p12_4) false := by kernel_rfl
theorem p26_0_is : p26_0 = .region 0 (cO p26_0) false := by kernel_rfl
theorem p26_1_is : p26_1 = .region 1 (cO p26_1) false := by kernel_rfl
theorem p26_2_is : p26_2 = .region 2 (cO p26_2) false := by kernel_rfl
theorem p26_3_is : p26_3 = .region 3 (cO p26_3) false := by kernel_rfl
theorem op12_0a : ∃ o, (cO p12_0)[0]? = some o ∧ o.op = .box 31 (.tmp 0) ∧ o.dst = some 2 ∧ o.guard = none := ⟨_, rfl, rfl, rfl, rfl⟩
theorem op12_0b : ∃ o, (cO p12_0)[1]? = some o ∧ o.op = .alloc 31 ∧ o.dst = some 4 ∧ o.guard = none := ⟨_, rfl, rfl, rfl, rfl⟩
theorem op12_1a : ∃ o, (cO p12_1)[0]? = some o ∧ o.op = .move (.tmp 1) ∧ o.dst = some 10 ∧ o.guard = none := ⟨_, rfl, rfl, rfl, rfl⟩
theorem op12_1b : ∃ o, (cO p12_1)[1]? = some o ∧ o.op = .call ⟨.builtin .len, #[.tmp 10], #[22]⟩ ∧ o.dst = some 11 ∧ o.guard = none := ⟨_, rfl, rfl, rfl, rfl⟩
theorem op12_1c : ∃ o, (cO p12_1)[2]? = some o ∧ o.op = .binOp .lss 3 (.tmp 11) (.const (.int .i64 64)) 3 ∧ o.dst = some 12 ∧ o.guard = none := ⟨_, rfl, rfl, rfl, rfl⟩
theorem op12_4a : ∃ o, (cO p12_4)[0]? = some o ∧ o.op = .move (.tmp 1) ∧ o.dst = some 15 ∧ o.guard = none := ⟨_, rfl, rfl, rfl, rfl⟩
theorem op12_4b : ∃ o, (cO p12_4)[1]? = some o ∧ o.op = .call ⟨.value (.func 26), #[.tmp 15], #[22]⟩ ∧ o.dst = some 16 ∧ o.guard = none := ⟨_, rfl, rfl, rfl, rfl⟩
theorem op26_0a : ∃ o, (cO p26_0)[0]? = some o ∧ o.op = .box 22 (.tmp 0) ∧ o.dst = some 1 ∧ o.guard = none := ⟨_, rfl, rfl, rfl, rfl⟩
theorem op26_0b : ∃ o, (cO p26_0)[1]? = some o ∧ o.op = .assign (.const (.chan none)) ∧ o.dst = some 2 ∧ o.guard = none := ⟨_, rfl, rfl, rfl, rfl⟩
theorem op26_1a : ∃ o, (cO p26_1)[0]? = some o ∧ o.op = .makeChan 58 (.const (.int .i64 4)) ∧ o.dst = some 4 ∧ o.guard = none := ⟨_, rfl, rfl, rfl, rfl⟩
theorem op26_1b : ∃ o, (cO p26_1)[1]? = some o ∧ o.op = .alloc 58 ∧ o.dst = some 3 ∧ o.guard = none := ⟨_, rfl, rfl, rfl, rfl⟩
theorem op26_1c : ∃ o, (cO p26_1)[2]? = some o ∧ o.op = .store 58 (.tmp 3) (.tmp 4) ∧ o.dst = none ∧ o.guard = none := ⟨_, rfl, rfl, rfl, rfl⟩
theorem op26_2a : ∃ o, (cO p26_2)[0]? = some o ∧ o.op = .makeFunc (.func 36) #[] #[.tmp 3, .tmp 1] ∧ o.dst = some 5 ∧ o.guard = none := ⟨_, rfl, rfl, rfl, rfl⟩
theorem op26_2b : ∃ o, (cO p26_2)[1]? = some o ∧ o.op = .go ⟨.value (.tmp 5), #[], #[]⟩ ∧ o.dst = none ∧ o.guard = none := ⟨_, rfl, rfl, rfl, rfl⟩
theorem op26_3a : ∃ o, (cO p26_3)[0]? = some o ∧ o.op = .load 58 (.tmp 3) ∧ o.dst = some 6 ∧ o.guard = none := ⟨_, rfl, rfl, rfl, rfl⟩
theorem op26_3b : ∃ o, (cO p26_3)[1]? = some o ∧ o.op = .assign (.tmp 6) ∧ o.dst = some 2 ∧ o.guard = none := ⟨_, rfl, rfl, rfl, rfl⟩
section
variable {a : Act} {o : Oper} {x y : Operand}
theorem run_move {P : Program} (hop : o.op = .move x) (w : World) : (execOp a.eval o).run P w = .ok (.value (a.eval x)) w ∧ (execOp a.eval o).events P w #[] = #[] := by
  unfold execOp
  simp only [hop]
  exact ⟨rfl, rfl⟩
theorem run_assign {P : Program} (hop : o.op = .assign x) (w : World) : (execOp a.eval o).run P w = .ok (.value (a.eval x)) w ∧ (execOp a.eval o).events P w #[] = #[] := by
  unfold execOp
  simp only [hop]
  exact ⟨rfl, rfl⟩
theorem run_box8 {f : Nat → Int} (hop : o.op = .box 31 x) (hx : a.eval x = .agg (vals .u32 8 f)) (w : World) : (execOp a.eval o).run Tryd.prog w = .ok (.value (.pointer (some ⟨w.heap.size, 0, none⟩))) (w.alloc (.cells (vals .u32 8 f) 31)) ∧ (execOp a.eval o).events Tryd.prog w #[] = #[] := by
  unfold execOp
  simp only [hop, hx]
  constructor
  · simp [go_sem]
  · simp [go_sem]
theorem run_boxS {s : Value} (hop : o.op = .box 22 x) (hx : a.eval x = s) (hs : ∃ b l c, s = .slice b l c) (w : World) : (execOp a.eval o).run Tryd.prog w = .ok (.value (.pointer (some ⟨w.heap.size, 0, none⟩))) (w.alloc (.cells #[s] 22)) ∧ (execOp a.eval o).events Tryd.prog w #[] = #[] := by
  obtain ⟨b, l, c, rfl⟩ := hs
  unfold execOp
  simp only [hop, hx]
  constructor
  · simp [go_sem]
  · simp [go_sem]
theorem run_alloc8 (hop : o.op = .alloc 31) (w : World) : (execOp a.eval o).run Tryd.prog w = .ok (.value (.pointer (some ⟨w.heap.size, 0, none⟩))) (w.alloc (.cells (vals .u32 8 (fun _ => 0)) 31)) ∧ (execOp a.eval o).events Tryd.prog w #[] = #[] := by
  have hz := zero8
  unfold execOp
  simp only [hop]
  constructor
  · simp [go_sem, hz]
  · simp [go_sem]
theorem run_allocC (hop : o.op = .alloc 58) (w : World) : (execOp a.eval o).run Tryd.prog w = .ok (.value (.pointer (some ⟨w.heap.size, 0, none⟩))) (w.alloc (.cells #[.chan none] 58)) ∧ (execOp a.eval o).events Tryd.prog w #[] = #[] := by
  unfold execOp
  simp only [hop]
  constructor
  · simp [go_sem]
  · simp [go_sem]
theorem run_len {b : Option Addr} {l c : Nat} (hop : o.op = .call ⟨.builtin .len, #[.tmp 10], #[22]⟩) (hx : a.eval (.tmp 10) = .slice b l c) (w : World) : (execOp a.eval o).run Tryd.prog w = .ok (.value (.int .i64 l)) w ∧ (execOp a.eval o).events Tryd.prog w #[] = #[] := by
  unfold execOp
  simp only [hop]
  have hx' : a.tmps[10]?.getD undef = .slice b l c := by rw [← hx]; simp [Act.eval]
  constructor
  · simp [go_sem, hx']
  · simp [go_sem, hx']
theorem run_lss {n : Int} (hop : o.op = .binOp .lss 3 (.tmp 11) (.const (.int .i64 64)) 3) (hx : a.eval (.tmp 11) = .int .i64 n) (w : World) : (execOp a.eval o).run Tryd.prog w = .ok (.value (.bool (decide (n < 64)))) w ∧ (execOp a.eval o).events Tryd.prog w #[] = #[] := by
  have hc : a.eval (.const (.int .i64 64)) = .int .i64 64 := rfl
  unfold execOp
  simp only [hop, hx, hc]
  constructor
  · simp [go_sem]
  · simp [go_sem]
theorem run_makeChan (hop : o.op = .makeChan 58 (.const (.int .i64 4))) (w : World) : (execOp a.eval o).run Tryd.prog w = .ok (.value (.chan (some w.heap.size))) (w.alloc (.chan 4 #[] false 0 0 false)) ∧ (execOp a.eval o).events Tryd.prog w #[] = #[] := by
  have hc : a.eval (.const (.int .i64 4)) = .int .i64 4 := rfl
  obtain ⟨i, hi, hb⟩ : ∃ i, Tryd.prog.info? 25 = some i ∧ i.bytes = 256 := ⟨_, rfl, rfl⟩
  have h1 := Go.Conc.run_makeChan (P := Tryd.prog) (w := w) Tryd.underlying58 hi .i64 4 (by decide) (by rw [hb]; decide)
  have h2 := Go.Conc.events_makeChan (P := Tryd.prog) (w := w) Tryd.underlying58 hi .i64 4 (by decide) (by rw [hb]; decide) #[]
  rw [show ((4 : Nat) : Int) = 4 from rfl] at h1 h2
  unfold execOp
  simp only [hop, hc]
  constructor
  · simp [go_sem, h1]
  · simp [go_sem, h2]
theorem run_storeC {oc c : Nat} {u : Value} (hop : o.op = .store 58 (.tmp 3) (.tmp 4)) (hx : a.eval (.tmp 3) = .pointer (some ⟨oc, 0, none⟩)) (hy : a.eval (.tmp 4) = .chan (some c)) (w : World) (hc : w.cell? ⟨oc, 0, none⟩ = some u) (hz : w.frozen? ⟨oc, 0, none⟩ = false) : (execOp a.eval o).run Tryd.prog w = .ok .skip (w.setCell ⟨oc, 0, none⟩ (.chan (some c))) := by
  unfold execOp
  simp only [hop, hx, hy]
  simp [go_sem, hc, hz]
theorem run_makeFunc {u v : Value} (hop : o.op = .makeFunc (.func 36) #[] #[.tmp 3, .tmp 1]) (hx : a.eval (.tmp 3) = u) (hy : a.eval (.tmp 1) = v) (w : World) : (execOp a.eval o).run Tryd.prog w = .ok (.value (.func (.func 36) #[] #[u, v])) w ∧ (execOp a.eval o).events Tryd.prog w #[] = #[] := by
  have h1 : (#[(.tmp 3 : Operand), .tmp 1]).map a.eval = #[u, v] := by rw [← hx, ← hy]; simp
  have h2 : (#[] : Array Operand).map a.eval = #[] := by simp
  unfold execOp
  simp only [hop, h1, h2]
  constructor
  · simp [go_sem]
  · simp [go_sem]
theorem run_go {oc bc : Nat} (hop : o.op = .go ⟨.value (.tmp 5), #[], #[]⟩) (hx : a.eval (.tmp 5) = .func (.func 36) #[] #[.pointer (some ⟨oc, 0, none⟩), .pointer (some ⟨bc, 0, none⟩)]) (w : World) : (execOp a.eval o).run Tryd.prog w = .ok (.spawn (dgo oc bc)) w ∧ (execOp a.eval o).events Tryd.prog w #[] = #[] := by
  have h2 : (#[] : Array Operand).map a.eval = #[] := by simp
  unfold execOp
  simp only [hop, resolve, hx, h2]
  constructor
  · simp [Deferred.ofValue, dgo]
  · simp [Deferred.ofValue]
end
end Go.Proofs.YtfnncplokombgaaDoor

/- What a call does in company, out of what it does alone (42): from the go statement to the receiver's loop; the go statement. -/
namespace Go.Proofs.YtfnncplokombgaaDoor
open Go Go.Conc

/-- the caller's frame of schedules -/
noncomputable def frB (T : Array Value) : Frame := (base 12).at ⟨T, []⟩ [.inRegion (cO p12_4) [1], .code (.block 0 (.loop L12)), .code (.seq p12_18 .ret)]
section
variable {S : BSet} {vb kb rb c oc bc ib off len n : Nat} {w0 w w1 : World} {B : Nat → Nat} {O O1 : BSet} {Post : Value → World → Prop}
/-- the receiver, ahead of its loop -/
structure MO (S : BSet) (vb kb rb c oc : Nat) (w0 : World) (B : Nat → Nat) (O : BSet) (w : World) : Prop where
  mi : MI S vb kb rb w0 B O w
  ocell : ∃ e fr, w.heap[oc]? = some (.cells #[.chan (some c)] e fr)
theorem MO.stab (ge : MGeo S vb kb rb w0) (so : S oc) : Stab S (MO S vb kb rb c oc w0 B) := fun O w w1 h R => ⟨MI.stab ge O w w1 h.mi R, by rw [R.keep oc (.inr so)]; exact h.ocell⟩
theorem MI.still (h : MI S vb kb rb w0 B O w) (ge : MGeo S vb kb rb w0) (hO : ∀ b, O b → O1 b) (hs : ∀ b, (O b ∨ S b) → b < w.heap.size → w1.heap[b]? = w.heap[b]?) (ho : w1.os = w.os ∧ w1.output = w.output ∧ w1.tape = w.tape ∧ w.heap.size ≤ w1.heap.size) : MI S vb kb rb w0 B O1 w1 := by
  obtain ⟨t1, h1⟩ := h.rowv
  obtain ⟨t2, h2⟩ := h.rowk
  obtain ⟨t3, h3⟩ := h.rowr
  have hl : ∀ {b : Nat} {c : Array Value} {e : TypeId}, RowC w b c e → b < w.heap.size := fun hr => by obtain ⟨⟨fr, h⟩, _⟩ := hr; exact (Array.getElem?_eq_some_iff.1 h).1
  have hg : ∀ g, niceG.contains g = true → w1.heap[g]? = w.heap[g]? := fun g hg => by
    obtain ⟨a, b, d, e⟩ := h.tame g hg
    exact hs g (.inr (ge.tabs g hg)) (Array.getElem?_eq_some_iff.1 e).1
  exact ⟨hO _ h.ov, hO _ h.ok, hO _ h.orr, ⟨t1, h1.of_eq (hs vb (.inl h.ov) (hl h1))⟩, ⟨t2, h2.of_eq (hs kb (.inl h.ok) (hl h2))⟩, ⟨t3, h3.of_eq (hs rb (.inl h.orr) (hl h3))⟩,
    ⟨fun i hi => by rw [heap_cell (hg _ rfl)]; exact h.tabs.1 i hi, fun i hi => by rw [heap_cell (hg _ rfl)]; exact h.tabs.2 i hi⟩,
    fun g hn => by obtain ⟨a, b, d, e⟩ := h.tame g hn; exact ⟨a, b, d, by rw [hg g hn]; exact e⟩,
    ⟨ho.1.trans h.kept.os, ho.2.1.trans h.kept.output, ho.2.2.1.trans h.kept.tape, Nat.le_trans h.kept.size ho.2.2.2, fun b hb => (hs b (h.cover b hb) (Nat.lt_of_lt_of_le hb h.kept.size)).trans (h.kept.keep b hb)⟩, fun b hb => (h.cover b hb).imp (hO b) id⟩
/-- from the go statement to the receiver's loop -/
theorem f26_tail (ge : MGeo S vb kb rb w0) (so : S oc) (hoc : oc ≠ 0 ∧ oc ≠ 1 ∧ oc ≠ 2) {X : BSet → Goroutine → World → Prop} (hX : Closed Tryd.prog true S X) {T T12 : Array Value} (h7 : T.size = 7) (h3 : T[3]? = some (.pointer (some ⟨oc, 0, none⟩)))
    (hT : T12.size = 46 ∧ T12[2]? = some (.pointer (some ⟨vb, 0, none⟩)) ∧ T12[4]? = some (.pointer (some ⟨rb, 0, none⟩)) ∧ T12[5]? = some (.pointer (some ⟨kb, 0, none⟩))) {cs : List Frame}
    (h : ∀ T' : Array Value, MT vb kb rb c T' → All X (MI S vb kb rb w0 B) (G ((base 12).at ⟨T', []⟩ [.code L12, .inLoop L12, .inBlock 0, .code (.seq p12_18 .ret)]) cs)) :
    All X (MO S vb kb rb c oc w0 B) (G ((base 26).at ⟨T, []⟩ [.inRegion (cO p26_2) [], .code (.seq p26_3 .ret)]) (frB T12 :: cs)) := by
  have hst := MO.stab (c := c) (oc := oc) (B := B) ge so
  have hst2 := MI.stab (B := B) ge
  have hr : List.range (cO p26_3).size = [0, 1] := by kernel_rfl
  obtain ⟨o1, a1, a2, a3, a4⟩ := op26_3a
  obtain ⟨o2, b1, b2, b3, b4⟩ := op26_3b
  obtain ⟨o3, c1, c2, c3, c4⟩ := op12_4b
  have kind26 : (base 26).kind ≠ .early := by intro h; cases h
  refine All.ctl hX hst (fun w => stepG_region_end) (All.ctl hX hst (fun w => stepG_seq) (All.ctl hX hst (fun w => step_reg p26_3_is hr) ?_))
  intro O w hi
  obtain ⟨te, fr, hoc1⟩ := hi.ocell
  have M : Meet S O [0, 1, 2, oc] [0, 1, 2, oc] w := by
    refine ⟨fun g hg => by have := nice_of hg; simp; omega, fun b hb => ?_, fun b hb => ?_, fun b hb hn => absurd hb hn⟩
    · simp at hb
      rcases hb with rfl | rfl | rfl | rfl
      · exact hi.mi.tame 0 rfl
      · exact hi.mi.tame 1 rfl
      · exact hi.mi.tame 2 rfl
      · exact ⟨_, te, fr, hoc1⟩
    · refine .inr ⟨?_, hb⟩
      simp at hb
      rcases hb with rfl | rfl | rfl | rfl
      · exact ge.tabs 0 rfl
      · exact ge.tabs 1 rfl
      · exact ge.tabs 2 rfl
      · exact so
  refine op_piece progOk hX _ _ (fun i => i = 3) M (fun i v hi hv => by subst hi; rw [h3] at hv; rw [← Option.some.inj hv]; exact vrel_ptr (by simp)) a1 (wanted_none a4 _) kind26 (by rw [a2]; rfl) (.chan (some c)) (fun _ => True) (fun Tl W hTl hkp hW => ?_) ?_
  · have hw : W.cell? ⟨oc, 0, none⟩ = some (.chan (some c)) := by
      rw [← ice_cell [0, 1, 2, oc] [0, 1, 2, oc] (w := w) (a := ⟨oc, 0, none⟩) (v := .chan (some c)) (by unfold World.cell?; rw [hoc1]; rfl) (.chan c)]
      exact heap_cell (by rw [hW])
    exact ⟨W, (run_loadC a2 (eval_tmp ((hkp 3 rfl).trans h3)) W hw).1, rfl, trivial⟩
  rintro σ O1 v' WE wE p hv _ _ _
  obtain rfl := fixed_chan σ c v' hv
  rw [a3]
  have hi2 : MI S vb kb rb w0 B O1 wE := hi.mi.still ge p.own (fun b hb hl => by
    by_cases hL : b ∈ [0, 1, 2, oc]
    · exact path_stiff M p hL hL
    · exact path_out p hL hl hb) ⟨p.os, p.output, p.tape, p.size⟩
  have e6 : (T.setIfInBounds 6 (.chan (some c)))[6]? = some (.chan (some c)) := Array.getElem?_setIfInBounds_self_of_lt (by rw [h7]; decide)
  have s6 : (T.setIfInBounds 6 (.chan (some c))).size = 7 := by simpa using h7
  show X O1 (G ((base 26).at ⟨T.setIfInBounds 6 (.chan (some c)), []⟩ _) _) wE
  generalize T.setIfInBounds 6 (.chan (some c)) = T2 at e6 s6
  have hra := fun w1 : World => run_assign (P := Tryd.prog) (a := ⟨T2, []⟩) b2 w1
  refine All.val hX hst2 (a := ⟨T2, []⟩) (.chan (some c)) b1 (wanted_none b4 _) kind26 (fun w => by rw [(hra w).1, eval_tmp e6]) (fun w => (hra w).2) ?_ O1 wE hi2
  rw [b3]
  have e2 : (T2.setIfInBounds 2 (.chan (some c)))[2]? = some (.chan (some c)) := Array.getElem?_setIfInBounds_self_of_lt (by rw [s6]; decide)
  show All X _ (G ((base 26).at ⟨T2.setIfInBounds 2 (.chan (some c)), []⟩ _) _)
  generalize T2.setIfInBounds 2 (.chan (some c)) = T3 at e2
  refine All.ctl hX hst2 (fun w => stepG_region_end) (All.ctl hX hst2 (fun w => stepG_ret') ?_)
  have hres : Tryd.f26.results = #[.tmp 2] := rfl
  have hg2 : T3.getD 2 undef = .chan (some c) := by rw [Array.getD_eq_getD_getElem?, e2]; rfl
  refine All.ctl hX hst2 (fun w => stepG_leave (b := base 26) (a := ⟨T3, []⟩) rfl rfl Tryd.func26 (by rw [results_tmp hres]) (events_results_tmp hres _ _)) ?_
  have hfin : (frB T12).finish (.chan (some c)) = (base 12).at ⟨T12.setIfInBounds 16 (.chan (some c)), []⟩ [.inRegion (cO p12_4) [], .code (.block 0 (.loop L12)), .code (.seq p12_18 .ret)] := by
    have := Frame.finish_at (base 12) ⟨T12, []⟩ (cO p12_4) 1 [] [.code (.block 0 (.loop L12)), .code (.seq p12_18 .ret)] (.chan (some c))
    rw [c1, Option.bind_some, c3] at this
    exact this
  show All X _ (G ((frB T12).finish (T3.getD 2 undef)) cs)
  rw [hg2, hfin]
  refine All.ctl hX hst2 (fun w => stepG_region_end) (All.ctl hX hst2 (fun w => stepG_block) (All.ctl hX hst2 (fun w => stepG_loop) (h _ ⟨by simpa using hT.1, ?_, ?_, ?_, ?_⟩)))
  · rw [Array.getElem?_setIfInBounds_ne (by decide)]; exact hT.2.1
  · rw [Array.getElem?_setIfInBounds_ne (by decide)]; exact hT.2.2.1
  · rw [Array.getElem?_setIfInBounds_ne (by decide)]; exact hT.2.2.2
  · exact Array.getElem?_setIfInBounds_self_of_lt (by rw [hT.1]; decide)
end
end Go.Proofs.YtfnncplokombgaaDoor
