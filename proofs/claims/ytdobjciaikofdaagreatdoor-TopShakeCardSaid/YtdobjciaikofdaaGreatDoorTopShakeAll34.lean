/- Part 34 of 39 of what the proof of this law needs. Put together by a program out of the texts: Hs Ht Hu CwC CwD. -/
import Derived.Test.YtdobjciaikofdaaGreatDoorTopShakeAll33
import Derived.Test.YtdobjciaikofdaaGreatDoorTopShakeAll29
namespace Go.Proofs.YtdobjciaikofdaaGreatDoor
section
open Go.RowKit Go.Shelf Bt
theorem range_lines {g : Operand} {ps : Array Tmp} {assign body : Code} {Q : Exit -> Act -> World -> Prop} {a : Act} {w : World} {n : Nat} (h1 : 4 <= n) {bs : Nat}
  (hg : a.eval g = .func (.func 137) #[] #[.pointer (some ⟨bs, 0, none⟩)]) (hps : ps.size = 1) (hb : Boxed w bs 9 (.string (rsN 0)))
  (I : Nat -> World -> Prop) (hI : OwnFrom w.heap.size I) (hIs : ∀ k W v, I k W -> Boxed W bs 9 (.string (rsN k)) -> I k (W.setCell ⟨bs, 0, none⟩ v)) (hId : ∀ k W, I k W -> I k W.drew) (h0 : I 0 w) (a₁ : Nat -> Act)
  (hassign : ∀ (l k : Nat) (W : World) (K : Act -> World -> Prop), K (a₁ k) W -> assign.wpIn (Fence.wide.inRound l) (n - 1 - 1) Tryz.prog (Exit.then K (fun _ _ _ => False)) { tmps := (ps.zip #[Value.string (lnX3 k)]).foldl (fun t (p, v) => t.setIfInBounds p v) a.tmps, defers := [] } W)
  (hbody : ∀ (l k : Nat) (W : World), k < 3 -> I k W -> body.wpIn (Fence.wide.inRound l) (n - 1 - 1) Tryz.prog (fun e _ W' => e = .normal /\ KeepsFrom w.heap.size W W' /\ W'.heap[bs]? = W.heap[bs]? /\ I (k + 1) W') (a₁ k) W)
  (hdone : ∀ (D : Nat) (W : World), w.heap.size <= D -> I 3 W -> W.heap[D]? = some (.deferred (some [])) -> Q .normal { a with defers := { target := .collected D, args := #[] } :: a.defers } W) :
  (Code.rangeFunc g ps assign body).wpIn Fence.wide n Tryz.prog Q a w := by
 refine wpIn_rangeFunc ?_
 intro fn hfn
 obtain ⟨rec, hrec⟩ : ∃ rec : LoopState -> Option Code -> Loop, rec = fun st pe => { state := st, pending := pe, fn, tmps := a.tmps, params := ps, assign, body, defers := w.heap.size } := ⟨_, rfl⟩
 obtain ⟨W1, hW1⟩ : ∃ W1, (w.alloc (.deferred (some []))).alloc (.loop (rec .ready none)) = W1 := ⟨_, rfl⟩
 have hL1 : W1.heap[w.heap.size + 1]? = some (.loop (rec .ready none)) := by
  rw [<- hW1]; have := World.alloc_heap_new (w.alloc (.deferred (some []))) (.loop (rec .ready none)); rwa [World.size_alloc] at this
 have hK1 : W1.heap[w.heap.size]? = some (.deferred (some [])) := by
  rw [<- hW1]; exact (Below.heap_alloc _ _ _ (by simp)).trans (World.alloc_heap_new w _)
 have hB1 : Boxed W1 bs 9 (.string (rsN 0)) := by rw [<- hW1]; exact (hb.alloc _).alloc _
 have hI1 : I 0 W1 := by rw [<- hW1]; exact hI.alloc _ (hI.alloc _ h0)
 have hlb := hb.lt
 refine ⟨w.heap.size + 1, [{ target := .collected w.heap.size, args := #[] }], W1, { target := .fn (.func 137) #[.pointer (some ⟨bs, 0, none⟩)], args := #[.func (.yield (w.heap.size + 1)) #[] #[]] }, W1, 137,
  #[.func (.yield (w.heap.size + 1)) #[] #[]] ++ #[.pointer (some ⟨bs, 0, none⟩)], W1, ?_, ?_, fun _ _ => trivial, ?_, fun _ => by omega, ?_⟩
 ·rw [<- hW1, hrec]; exact run_enterLoop_outer _ _ _ _ _
 ·simp only [resolve, hg]
  simp [go_sem]
 ·simp [invoke, go_sem, enters_of Tryz.func137 (by kernel_rfl) rfl]
 ·refine (lines_all (n - 1) (by omega) W1 (w.heap.size + 1) bs (fun k W => I k W /\ W.heap[w.heap.size + 1]? = some (.loop (rec .ready none)) /\ W.heap[w.heap.size]? = some (.deferred (some [])))
   (fun k W v h hB => ⟨hIs k W v h.1 hB, ((grownBy_setCell' W bs v).block _ (Array.getElem?_eq_some_iff.1 h.2.1).1 (fun e => by cases e; omega)).trans h.2.1, ((grownBy_setCell' W bs v).block _ (Array.getElem?_eq_some_iff.1 h.2.2).1 (fun e => by cases e; omega)).trans h.2.2⟩)
   (fun k W h => ⟨hId k W h.1, h.2⟩) ?_ ⟨hI1, hL1, hK1⟩ hB1).mono ?_
  ·rintro k W hk ⟨hi, hl, hd⟩
   have hlt : w.heap.size + 1 < W.heap.size := (Array.getElem?_eq_some_iff.1 hl).1
   have hy := run_yield (P := Tryz.prog) (args := #[Value.string (lnX3 k)]) hl (by rw [hrec]; exact hps.symm)
   rw [hrec] at hy
   refine ⟨fn, _, assign, body, hy, roundIn_of_wpIn hfn (hassign _ k W _ ⟨_, run_beginRound hl (by rw [hrec]), ?_⟩)⟩
   have hl2 : (W.putObj (w.heap.size + 1) (.loop { rec .ready none with state := .busy })).heap[w.heap.size + 1]? = some (.loop { rec .ready none with state := .busy }) := World.putObj_heap_same hlt
   have hd2 : (W.putObj (w.heap.size + 1) (.loop { rec .ready none with state := .busy })).heap[w.heap.size]? = some (.deferred (some [])) := (World.putObj_heap_other (by omega)).trans hd
   have hb2 : (W.putObj (w.heap.size + 1) (.loop { rec .ready none with state := .busy })).heap[bs]? = W.heap[bs]? := World.putObj_heap_other (by omega)
   refine wpIn_mono (hbody _ k _ hk (hI.putObj _ hi (by omega) hl rfl)) ?_
   rintro e a3 W3 ⟨rfl, hk3, hb3, hi3⟩
   have hl3 := hk3.same _ _ (by omega) hl2 rfl
   have hd3 := hk3.same _ _ (Nat.le_refl _) hd2 rfl
   have hr := run_endRound (P := Tryz.prog) none hl3
   refine ⟨_, _, hr, rfl, ⟨hI.putObj _ hi3 (by omega) hl3 rfl, ?_, (World.putObj_heap_other (by omega)).trans hd3⟩, (World.putObj_heap_other (by omega)).trans (hb3.trans hb2)⟩
   rw [World.putObj_heap_same (Array.getElem?_eq_some_iff.1 hl3).1, hrec]
   rfl
  ·rintro e W2 ⟨⟨v, rfl⟩, hi, hl, hd⟩
   exact ⟨none, _, by have := run_endLoop (P := Tryz.prog) hl (by rw [hrec]; simp); rw [hrec] at this; exact this, hdone _ _ (Nat.le_refl _) (hI.putObj _ hi (by omega) hl rfl) ((World.putObj_heap_other (by omega)).trans hd)⟩
end
section
open Go.RowKit Go.Shelf Bt
theorem infoCall : (Tryz.prog.info? 108).map (fun i => (i.zero, i.size, i.bytes)) = some (some (.agg (callC 0 0 0 0 nilS nilS nilS)), 9, 120) := by kernel_rfl
def kdN (k : Nat) : Int := [1, 4, 5].getD k 0
def hhN (k : Nat) : Int := [0, 1, 1].getD k 0
def alN (k : Nat) : Int := [8, 0, 0].getD k 0
def cN (k : Nat) (v : Value) : Array Value := callC (kdN k) (hhN k) (alN k) 0 nilS nilS (if k = 1 then v else nilS)
def rowsN (v : Value) : Nat -> List Value
 | 0 => []
 | k + 1 => rowsN v k ++ (cN k v).toList
theorem cN_size (k : Nat) (v : Value) : (cN k v).size = 9 := rfl
def ltN (k : Nat) : ByteArray := [lineA, lineB, lineC].getD k ⟨#[]⟩
theorem parse_k (k : Nat) (hk : k < 3) (w : World) (ht : TabE w) {m : Int} (hm : w.cell? ⟨6, 0, none⟩ = some (.int .i64 m)) : Calls Tryz.prog 95 #[.string (ltN k)] w fun e w' => ∃ v, e = .returned (.tuple #[.agg (cN k v), .int .i64 0]) /\ (k = 1 -> owns w' w.heap.size 5 .u8 v 3 (fun j => (abcC j : Int))) /\ (∃ a n c, v = .slice a n c) /\ Below w.heap.size w w' := by
 obtain rfl | rfl | rfl : k = 0 \/ k = 1 \/ k = 2 := by omega
 ·refine (parseA_w w ht hm).mono ?_
  rintro e w' ⟨rfl, hb⟩
  exact ⟨nilS, rfl, fun h => by omega, ⟨_, _, _, rfl⟩, hb⟩
 ·refine (parseB_w w ht hm).mono ?_
  rintro e w' ⟨v, rfl, ho, hb⟩
  obtain ⟨a, c, rfl, _⟩ := owns_reads ho
  exact ⟨_, rfl, fun _ => ho, ⟨_, _, _, rfl⟩, hb⟩
 ·refine (parseC_w w ht hm).mono ?_
  rintro e w' ⟨rfl, hb⟩
  exact ⟨nilS, rfl, fun h => by omega, ⟨_, _, _, rfl⟩, hb⟩
theorem cut_k (k : Nat) (hk : k < 3) (w : World) : Calls Tryz.prog 94 #[.string (lnX3 k), .string ⟨#[10]⟩] w fun e w' => e = .returned (.tuple #[.string (ltN k), .bool true]) /\ w' = w := by
 have h := Tryz.strings_CutSuffix (lnX3 k) ⟨#[10]⟩ w (by
  obtain rfl | rfl | rfl : k = 0 \/ k = 1 \/ k = 2 := by omega
  all_goals decide)
 have e1 : (⟨(Lib.trimSuffix (lnX3 k).data.toList (⟨#[10]⟩ : ByteArray).data.toList).toArray⟩ : ByteArray) = ltN k := by
  obtain rfl | rfl | rfl : k = 0 \/ k = 1 \/ k = 2 := by omega
  all_goals kernel_rfl
 have e2 : Lib.hasSuffix (lnX3 k).data.toList (⟨#[10]⟩ : ByteArray).data.toList = true := by
  obtain rfl | rfl | rfl : k = 0 \/ k = 1 \/ k = 2 := by omega
  all_goals kernel_rfl
 rw [e1, e2] at h
 exact h
structure AI (w W : World) (k : Nat) (v vb : Value) : Prop where
 l : Boxed W w.heap.size 98 v
 ln : Boxed W (w.heap.size + 1) 3 (.int .i64 0)
 e : Boxed W (w.heap.size + 2) 25 (.int .i64 0)
 n : Boxed W (w.heap.size + 3) 3 (.int .i64 k)
 row : W.ownsRow (w.heap.size + 5) 108 9 v k (rowsN vb k)
 byt : 2 <= k -> owns W (w.heap.size + 5) 5 .u8 vb 3 (fun j => (abcC j : Int))
 bl : Below w.heap.size w W
theorem ownsRow_keptS {w w' : World} {base s : Nat} {t : TypeId} {v : Value} {n : Nat} {xs : List Value} {row : Option Nat} (h : w.ownsRow base t s v n xs) (hg : w.grownBy w' row) (hr : ∀ r, row = some r -> ∀ c t fr, w.heap[r]? = some (.cells c t fr) -> t = 9) (ht : t ≠ 9) : w'.ownsRow base t s v n xs := by
 refine World.ownsRow.kept (row := row) h hg ?_
 rcases h.2 with ⟨rfl, _⟩ | ⟨g, cap, cur, rfl, _, hgg, _⟩
 ·exact .inl rfl
 ·refine .inr fun e => ?_
  have e2 : some g = row := e
  exact ht (hr g e2.symm _ _ _ hgg)
theorem boxed_keptS {w w' : World} {b : Nat} {t : TypeId} {v : Value} {row : Option Nat} (h : Boxed w b t v) (hg : w.grownBy w' row) (hr : ∀ r, row = some r -> ∀ c t fr, w.heap[r]? = some (.cells c t fr) -> t = 9) (ht : t ≠ 9) : Boxed w' b t v :=
 h.kept hg fun e => ht (hr b e.symm _ _ _ h)
theorem AI.kept {w W W' : World} {k : Nat} {v vb : Value} {row : Option Nat} (h : AI w W k v vb) (hg : W.grownBy W' row) (hr : ∀ r, row = some r -> w.heap.size <= r /\ ∀ c t fr, W.heap[r]? = some (.cells c t fr) -> t = 9) : AI w W' k v vb :=
 have hr2 := fun r e => (hr r e).2
 ⟨boxed_keptS h.l hg hr2 (by decide), boxed_keptS h.ln hg hr2 (by decide), boxed_keptS h.e hg hr2 (by decide), boxed_keptS h.n hg hr2 (by decide), ownsRow_keptS h.row hg hr2 (by decide), fun h2 => ownsRow_keptS (h.byt h2) hg hr2 (by decide), h.bl.grown hg h.bl.size fun r e => (hr r e).1⟩
end
section
open Go.RowKit Go.Shelf Bt
attribute [local go_sem] Oper.semAt_some
theorem lines_w (s : ByteArray) (w : World) : Calls Tryz.prog 93 #[.string s] w fun e w' => e = .returned (.func (.func 137) #[] #[.pointer (some ⟨w.heap.size, 0, none⟩)]) /\ w.alloc (.cells #[.string s] 9) = w' := by
 go_enter Tryz.func93, Tryz.ntmps93
 go_wp2
 go_ret
 exact ⟨rfl, rfl⟩
theorem append_call_in {F : Fence} {n : Nat} {ops : Array Oper} {rest : List Oper} {o : Oper} {a : Act} {w : World} {Q : Exit -> Act -> World -> Prop} (hgd : o.guard = none) (s x : Operand) (ho : o.op = .call { callee := .builtin .append, args := #[s, x], argTypes := #[98, 98] })
  {base : Nat} {v : Value} {k : Nat} {xs : List Value} (hs : a.eval s = v) {W2 : World} {c : Array Value} {o1 : Obj} (hown : W2.ownsRow base 108 9 v k xs)
  (hx : a.eval x = .slice (some ⟨W2.heap.size + 1, 0, none⟩) 1 1) (hw : w = (W2.alloc o1).alloc (.cells c 108)) (hc : c.size = 9) (h1 : ∀ u ∈ c.toList, u.oneCell' = true) (hk : k + 1 <= 100) (hbase : base <= W2.heap.size)
  (h : ∀ v' w', w'.ownsRow base 108 9 v' (k + 1) (xs ++ c.toList) -> ((W2.alloc o1).alloc (.cells c 108)).grownBy w' v.ownBlock -> wpListIn F n Tryz.prog ops Q rest (a.put o.dst v') w') : wpListIn F n Tryz.prog ops Q (o :: rest) a w := by
 subst hw
 obtain ⟨i, hi, hz, h2, h3⟩ := info_parts infoCall
 refine wpListIn_append_own _ hgd s x 98 ho base 108 i (.agg (callC 0 0 0 0 nilS nilS nilS)) 9 120 Tryz.underlying98 hi hz h2 h3 rfl (by decide) v k xs hs ((hown.alloc _).alloc _) ⟨W2.heap.size + 1, 0, none⟩ 1 1 c.toList hx (by simpa using hc) ?_ h1 (by unfold maxLen; omega) (by omega) (by simp; omega) (fun v' w' h' hg _ => h v' w' h' hg)
 intro j u hj
 rw [Addr.add_lit]
 have e : ((W2.alloc o1).alloc (.cells c 108)).heap[W2.heap.size + 1]? = some (.cells c 108 (0, 0)) := by
  have := World.alloc_heap_new (W2.alloc o1) (.cells c 108)
  rwa [World.size_alloc] at this
 rw [Nat.zero_add, cell_of_row _ _ j c _ _ e]
 simpa using hj
theorem AI.mid {w W W2 : World} {k : Nat} {v vb : Value} (h : AI w W k v vb) (u : Value) (hb : Below (W.setCell ⟨w.heap.size + 3, 0, none⟩ u).heap.size (W.setCell ⟨w.heap.size + 3, 0, none⟩ u) W2) : W2.ownsRow (w.heap.size + 5) 108 9 v k (rowsN vb k) /\ Boxed W2 w.heap.size 98 v := by
 have g1 := grownBy_setCell' W (w.heap.size + 3) u
 have row1 : (W.setCell ⟨w.heap.size + 3, 0, none⟩ u).ownsRow (w.heap.size + 5) 108 9 v k (rowsN vb k) := World.ownsRow.kept (row := some (w.heap.size + 3)) h.row g1 (.inr fun e => h.n.not_row (by decide) h.row e.symm)
 refine ⟨World.ownsRow.kept (row := none) row1 (gb_below hb) ?_, (h.l.kept g1 (by simp)).kept (gb_below (r := none) hb) (by simp)⟩
 rcases row1.2 with ⟨rfl, _⟩ | ⟨g, cap, cur, rfl, _⟩
 ·exact .inl rfl
 ·exact .inr (fun e => by cases e)
theorem box_after {W2 W5 : World} {b base k : Nat} {v : Value} {xs : List Value} {o1 o2 : Obj} (hB : Boxed W2 b 98 v) (hR : W2.ownsRow base 108 9 v k xs) (hg : ((W2.alloc o1).alloc o2).grownBy W5 v.ownBlock) : Boxed W5 b 98 v := by
 have hB2 := (hB.alloc o1).alloc o2
 exact hB2.kept hg (hB2.not_row (by decide) ((hR.alloc o1).alloc o2))
attribute [local go_sem] lt_s2 lt_s3 lt_s4 lt_s5 lt_s6 hasRow_at hasRow_past run_storeRow Value.oneCell' setRow_at setRow_past
attribute [local go_sem ↓] storeRow_is loadRow_is
theorem run_store1 (w : World) (b o : Nat) (u v : Value) (hc : w.cell? ⟨b, o, none⟩ = some u) (hf : w.frozen? ⟨b, o, none⟩ = false) (h1 : v.oneCell' = true) : (storeRow ⟨b, o, none⟩ [v]).run Tryz.prog w = .ok () (w.setCell ⟨b, o, none⟩ v) := by
 unfold storeRow
 have hr := run_storeCells_cells (P := Tryz.prog) b o [v] 0 w (fun j hj => by obtain rfl : j = 0 := (by simpa using hj); simp [hc]) (fun j hj => by obtain rfl : j = 0 := (by simpa using hj); simpa using hf) (by simpa using h1)
 exact hr
theorem rowsN_free (u v : Value) (k : Nat) (hk : k <= 1) : rowsN u k = rowsN v k := by
 obtain rfl | rfl : k = 0 \/ k = 1 := by omega
 ·rfl
 ·rfl
theorem cN_free (u v : Value) (k : Nat) (hk : k ≠ 1) : cN k u = cN k v := by simp [cN, hk]
theorem AI.step {w W W2 W5 : World} {k : Nat} {v vb vp v' : Value} {W0 : Nat} (hW0 : W0 = w.heap.size + 5) (hk : k < 3) (h : AI w W k v vb) (hs : W0 <= W.heap.size)
  (hb : Below (W.setCell ⟨w.heap.size + 3, 0, none⟩ (.int .i64 (k + 1 : Nat))).heap.size (W.setCell ⟨w.heap.size + 3, 0, none⟩ (.int .i64 (k + 1 : Nat))) W2)
  (hp : k = 1 -> owns W2 (W.setCell ⟨w.heap.size + 3, 0, none⟩ (.int .i64 (k + 1 : Nat))).heap.size 5 .u8 vp 3 (fun j => (abcC j : Int)))
  (ho : W5.ownsRow (w.heap.size + 5) 108 9 v' (k + 1) (rowsN vb k ++ (cN k vp).toList)) (o1 o2 : Obj) (hg : ((W2.alloc o1).alloc o2).grownBy W5 v.ownBlock) :
  (∃ vb', AI w (W5.setCell ⟨w.heap.size, 0, none⟩ v') (k + 1) v' vb') /\ KeepsFrom W0 W (W5.setCell ⟨w.heap.size, 0, none⟩ v') /\ (W5.setCell ⟨w.heap.size, 0, none⟩ v').heap[w.heap.size + 4]? = W.heap[w.heap.size + 4]? := by
 subst hW0
 have g1 := grownBy_setCell' W (w.heap.size + 3) (.int .i64 (k + 1 : Nat))
 have n1 := h.n.set (.int .i64 (k + 1 : Nat))
 have l1 := h.l.kept g1 (by simp)
 have ln1 := h.ln.kept g1 (by simp)
 have e1 := h.e.kept g1 (by simp)
 have row1 : (W.setCell ⟨w.heap.size + 3, 0, none⟩ (.int .i64 (k + 1 : Nat))).ownsRow (w.heap.size + 5) 108 9 v k (rowsN vb k) := World.ownsRow.kept (row := some (w.heap.size + 3)) h.row g1 (.inr fun e => h.n.not_row (by decide) h.row e.symm)
 have byt1 : 2 <= k -> owns (W.setCell ⟨w.heap.size + 3, 0, none⟩ (.int .i64 (k + 1 : Nat))) (w.heap.size + 5) 5 .u8 vb 3 (fun j => (abcC j : Int)) := fun h2 => World.ownsRow.kept (row := some (w.heap.size + 3)) (h.byt h2) g1 (.inr fun e => h.n.not_row (by decide) (h.byt h2) e.symm)
 have s1 : (W.setCell ⟨w.heap.size + 3, 0, none⟩ (.int .i64 (k + 1 : Nat))).heap.size = W.heap.size := by simp
 have bl1 : Below w.heap.size w (W.setCell ⟨w.heap.size + 3, 0, none⟩ (.int .i64 (k + 1 : Nat))) := h.bl.setCell (by show w.heap.size <= w.heap.size + 3; omega) _
 have k1 := KeepsOthers.setCell W ⟨w.heap.size + 3, 0, none⟩ (.int .i64 (k + 1 : Nat))
 have b1 : (W.setCell ⟨w.heap.size + 3, 0, none⟩ (.int .i64 (k + 1 : Nat))).heap[w.heap.size + 4]? = W.heap[w.heap.size + 4]? := g1.block _ (by omega) (by simp)
 generalize hW1 : W.setCell ⟨w.heap.size + 3, 0, none⟩ (.int .i64 (k + 1 : Nat)) = W1 at hb hp g1 n1 l1 ln1 e1 row1 byt1 s1 bl1 k1 b1
 have hs1 : w.heap.size + 5 <= W1.heap.size := by omega
 have hb4 : Below W1.heap.size W1 ((W2.alloc o1).alloc o2) := bl_alloc (bl_alloc hb)
 have hn4 := gb_below (r := none) hb4
 have nb4 : ∀ {b : Nat} {t : TypeId} {u : Value}, Boxed W1 b t u -> Boxed ((W2.alloc o1).alloc o2) b t u := fun hh => hh.kept hn4 (by simp)
 have row4 := World.ownsRow.kept (row := none) row1 hn4 (by
  rcases row1.2 with ⟨rfl, _⟩ | ⟨g, cap, cur, rfl, _⟩
  ·exact .inl rfl
  ·exact .inr (fun e => by cases e))
 have nb5 : ∀ {b : Nat} {t : TypeId} {u : Value}, Boxed W1 b t u -> t ≠ 108 -> Boxed W5 b t u := fun hh hne => (nb4 hh).kept hg ((nb4 hh).not_row hne row4)
 have own45 : ∀ {u : Value}, owns ((W2.alloc o1).alloc o2) (w.heap.size + 5) 5 .u8 u 3 (fun j => (abcC j : Int)) -> owns W5 (w.heap.size + 5) 5 .u8 u 3 (fun j => (abcC j : Int)) := fun {u} h4 => by
  refine World.ownsRow.kept (row := v.ownBlock) h4 hg ?_
  rcases h4.2 with ⟨rfl, _⟩ | ⟨g, cap, cur, rfl, _, hgg, _⟩
  ·exact .inl rfl
  ·refine .inr fun e => ?_
   rcases row4.2 with ⟨rfl, _⟩ | ⟨g', cap', cur', rfl, _, hgg', _⟩
   ·cases e
   ·have e2 : some g = some g' := e
    cases e2
    rw [hgg] at hgg'
    cases hgg'
 have own6 : ∀ {u : Value}, owns W5 (w.heap.size + 5) 5 .u8 u 3 (fun j => (abcC j : Int)) -> owns (W5.setCell ⟨w.heap.size, 0, none⟩ v') (w.heap.size + 5) 5 .u8 u 3 (fun j => (abcC j : Int)) := fun hh =>
  World.ownsRow.kept (row := some w.heap.size) hh (grownBy_setCell' W5 w.heap.size v') (.inr fun e => (nb5 l1 (by decide)).not_row (by decide) hh e.symm)
 have g6 := grownBy_setCell' W5 w.heap.size v'
 have hvb : ∀ r, v.ownBlock = some r -> w.heap.size + 5 <= r /\ ∃ o : Obj, ((W2.alloc o1).alloc o2).heap[r]? = some o /\ o.isCells = true := fun r e => by
  rcases row4.2 with ⟨rfl, _⟩ | ⟨g', cap', cur', rfl, hb', hgg', _⟩
  ·cases e
  ·have e2 : some g' = some r := e
   cases e2
   exact ⟨hb', _, hgg', rfl⟩
 refine ⟨⟨if k = 1 then vp else vb, (nb5 l1 (by decide)).set v', (nb5 ln1 (by decide)).kept g6 (by simp), (nb5 e1 (by decide)).kept g6 (by simp), (nb5 n1 (by decide)).kept g6 (by simp), ?_, fun h2 => ?_, ?_⟩, ?_, ?_⟩
 ·have e : rowsN (if k = 1 then vp else vb) (k + 1) = rowsN vb k ++ (cN k vp).toList := by
   rw [rowsN]
   by_cases h1 : k = 1
   ·rw [if_pos h1, rowsN_free vp vb k (by omega)]
   ·rw [if_neg h1, cN_free vb vp k h1]
  rw [e]
  exact World.ownsRow.kept (row := some w.heap.size) ho g6 (.inr fun e => (nb5 l1 (by decide)).not_row (by decide) ho e.symm)
 ·by_cases h1 : k = 1
  ·rw [if_pos h1]
   exact own6 (own45 (owns_base (by omega) (owns_below (Nat.le_refl _) (bl_alloc (bl_alloc (bl_refl W2))) (hp h1))))
  ·rw [if_neg h1]
   exact own6 (own45 (owns_below (Nat.le_refl _) hb4 (byt1 (by omega))))
 ·exact ((bl1.trans (hb4.mono bl1.size)).grown hg (by have := hb4.size; omega) fun r e => by have := (hvb r e).1; omega).setCell (Nat.le_refl _) _
 ·refine (((k1.trans (KeepsOthers.of_grownBy hn4 (fun j o e => by cases e))).trans (KeepsOthers.of_grownBy hg fun j o e hh => ?_)).trans (KeepsOthers.setCell W5 _ _)).from _
  obtain ⟨_, o', ho', hc⟩ := hvb j e
  rw [hh] at ho'
  cases ho'
  exact hc
 ·rw [g6.block _ (by have := hg.size; have := hb4.size; omega) (by simp), hg.block _ (by have := hb4.size; omega) (fun e => by have := (hvb _ e.symm).1; omega), hb4.block _ (by omega), b1]
set_option maxRecDepth 100000 in
set_option maxHeartbeats 8000000 in
theorem all3_w (w : World) (ht : TabE w) {m : Int} (hm : w.cell? ⟨6, 0, none⟩ = some (.int .i64 m)) : Calls Tryz.prog 51 #[.string (rsN 0)] w fun e w' => ∃ v vb, e = .returned (.tuple #[v, .int .i64 0, .int .i64 0]) /\ w'.ownsRow w.heap.size 108 9 v 3 (rowsN vb 3) /\ owns w' w.heap.size 5 .u8 vb 3 (fun j => (abcC j : Int)) /\ Below w.heap.size w w' := by
 have HT : Hid (∀ {w' : World}, Below w.heap.size w w' -> TabE w' /\ w'.cell? ⟨6, 0, none⟩ = some (.int .i64 m)) := Lib.hid fun hB => ⟨ht.grown (gb_below (r := none) hB) (by simp), (hB.cell (p := ⟨6, 0, none⟩) (cell_lt hm)).trans hm⟩
 clear ht hm
 refine (callsIn_wide (n := 8)).1 ?_
 refine callsIn_of_wp_marks Tryz.func51 rfl trivial ?_
 simp only [Tryz.ntmps51, List.size_toArray, List.length_cons, List.length_nil, Nat.reduceAdd, Nat.reduceSub, Array.replicate_succ, Array.replicate_zero, List.push_toArray, List.append_toArray, List.nil_append, List.cons_append]
 obtain ⟨tx, htx⟩ : ∃ tx, Hid (tx = rsN 0) := ⟨_, Lib.hid rfl⟩
 rw [<- htx.out]
 gi_wp2_with (refine ⟨trivial, ?_⟩; gi_at_call 93; refine (callsIn_wide.2 (lines_w _ _)).mono ?_; rintro e w' ⟨rfl, rfl⟩)
 have x1 := Boxed.new w 98 (.slice none 0 0)
 have x2 := Boxed.new (w.alloc (.cells #[.slice none 0 0] 98)) 3 (.int .i64 0)
 have x3 := Boxed.new ((w.alloc (.cells #[.slice none 0 0] 98)).alloc (.cells #[.int .i64 0] 3)) 25 (.int .i64 0)
 have x4 := Boxed.new (((w.alloc (.cells #[.slice none 0 0] 98)).alloc (.cells #[.int .i64 0] 3)).alloc (.cells #[.int .i64 0] 25)) 3 (.int .i64 0)
 have x5 := Boxed.new ((((w.alloc (.cells #[.slice none 0 0] 98)).alloc (.cells #[.int .i64 0] 3)).alloc (.cells #[.int .i64 0] 25)).alloc (.cells #[.int .i64 0] 3)) 9 (.string tx)
 simp only [World.size_alloc] at x1 x2 x3 x4 x5
 have hBl : Below w.heap.size w (((((w.alloc (.cells #[.slice none 0 0] 98)).alloc (.cells #[.int .i64 0] 3)).alloc (.cells #[.int .i64 0] 25)).alloc (.cells #[.int .i64 0] 3)).alloc (.cells #[.string tx] 9)) := bl_alloc (bl_alloc (bl_alloc (bl_alloc (bl_alloc (bl_refl w)))))
 have hsz0 : (((((w.alloc (.cells #[.slice none 0 0] 98)).alloc (.cells #[.int .i64 0] 3)).alloc (.cells #[.int .i64 0] 25)).alloc (.cells #[.int .i64 0] 3)).alloc (.cells #[.string tx] 9)).heap.size = w.heap.size + 5 := by simp
 have h0 : AI w (((((w.alloc (.cells #[.slice none 0 0] 98)).alloc (.cells #[.int .i64 0] 3)).alloc (.cells #[.int .i64 0] 25)).alloc (.cells #[.int .i64 0] 3)).alloc (.cells #[.string tx] 9)) 0 (.slice none 0 0) nilS := ⟨(((x1.alloc _).alloc _).alloc _).alloc _, ((x2.alloc _).alloc _).alloc _, (x3.alloc _).alloc _, x4.alloc _, ⟨rfl, .inl ⟨rfl, rfl⟩⟩, fun h => by omega, hBl⟩
 obtain ⟨W0, hW0⟩ : ∃ W0, ((((w.alloc (.cells #[.slice none 0 0] 98)).alloc (.cells #[.int .i64 0] 3)).alloc (.cells #[.int .i64 0] 25)).alloc (.cells #[.int .i64 0] 3)).alloc (.cells #[.string tx] 9) = W0 := ⟨_, rfl⟩
 rw [hW0] at hBl hsz0 h0 x5 ⊢
 rw [htx.out] at x5
 clear x1 x2 x3 x4 hW0
 refine range_lines (n := 8) (by omega) rfl rfl x5 (fun k W => W0.heap.size <= W.heap.size /\ ∃ v vb, AI w W k v vb) ?hI ?hIs ?hId ⟨Nat.le_refl _, _, _, h0⟩ (fun k => { tmps := #[.string tx, undef, .pointer (some ⟨w.heap.size, 0, none⟩), .pointer (some ⟨w.heap.size + 1, 0, none⟩), .pointer (some ⟨w.heap.size + 1 + 1, 0, none⟩), .pointer (some ⟨w.heap.size + 1 + 1 + 1, 0, none⟩), .string (lnX3 k), undef, undef, undef, undef, .string tx, .func (.func 137) #[] #[.pointer (some ⟨w.heap.size + 1 + 1 + 1 + 1, 0, none⟩)], .string (lnX3 k), undef, undef, undef, undef, undef, undef, undef, undef, undef, undef, undef, undef, undef, undef, undef, undef, undef, undef, undef, undef, undef, undef, undef, undef], defers := [] }) ?assign ?body ?done
 case hI =>
  rintro k W W' row ⟨hs, v, vb, h⟩ hg hr
  refine ⟨Nat.le_trans hs hg.size, v, vb, h.kept hg fun r e => ⟨by have := (hr r e).1; omega, fun c t fr hh => ?_⟩⟩
  obtain ⟨_, o, ho, hc⟩ := hr r e
  rw [hh] at ho
  cases ho
  cases hc
 case hIs =>
  rintro k W u ⟨hs, v, vb, h⟩ hB
  refine ⟨by rw [World.size_setCell]; exact hs, v, vb, h.kept (grownBy_setCell' W _ u) fun r e => ?_⟩
  cases e
  refine ⟨by omega, fun c t fr hh => ?_⟩
  rw [show W.heap[_]? = _ from hB] at hh
  cases hh
  rfl
 case hId =>
  rintro k W ⟨hs, v, vb, h⟩
  exact ⟨hs, v, vb, h.kept (row := none) ⟨rfl, rfl, rfl, Nat.le_refl _, fun _ _ _ => rfl⟩ (fun r e => by cases e)⟩
 case assign =>
  intro l k W K hK
  gi_wp2
  exact hK
 case body =>
  rintro l k W hk ⟨hsW, v, vb, hA⟩
  clear h0 x5
  have CC := Lib.hid (cut_k k hk)
  have cn : W.cell? ⟨w.heap.size + 1 + 1 + 1, 0, none⟩ = some (.int .i64 k) := hA.n.cell
  have fn : W.frozen? ⟨w.heap.size + 1 + 1 + 1, 0, none⟩ = false := hA.n.frozen
  have st1 := run_store1 W _ _ _ (.int .i64 ((k : Int) + 1)) cn fn rfl
  have ew : IntKind.i64.wrap ((k : Int) + 1) = (k : Int) + 1 := by rw [IntKind.wrap_i64]; omega
  have HA := Lib.hid hA
  have CP := Lib.hid (fun W' (h : Below w.heap.size w W') => parse_k k hk W' (HT.out h).1 (HT.out h).2)
  clear hA
  obtain ⟨kd, hkd⟩ : ∃ kd, Hid (kdN k = kd) := ⟨_, Lib.hid rfl⟩
  obtain ⟨hh, hhh⟩ : ∃ hh, Hid (hhN k = hh) := ⟨_, Lib.hid rfl⟩
  obtain ⟨al, hal⟩ : ∃ al, Hid (alN k = al) := ⟨_, Lib.hid rfl⟩
  obtain ⟨lx, hlx⟩ : ∃ lx, Hid (ltN k = lx) := ⟨_, Lib.hid rfl⟩
  rw [hlx.out] at CC CP
  gi_wp2_with (first | (refine ⟨trivial, ?_⟩; gi_at_call 94; refine (callsIn_wide.2 (CC.out _)).mono ?_; rintro e w' ⟨rfl, rfl⟩) | (refine ⟨trivial, ?_⟩; gi_at_call 95; refine (callsIn_wide.2 (CP.out _ (HA.out.bl.setCell (by show w.heap.size <= w.heap.size + 3; omega) _))).mono ?_; rintro e W2 ⟨vp, rfl, hp, hv, hb⟩; have HH := Lib.hid (And.intro hp (And.intro hv hb)); obtain ⟨bv, hbv⟩ : ∃ bv, Hid ((if k = 1 then vp else nilS) = bv) := ⟨_, Lib.hid rfl⟩; obtain ⟨ba, bn, bc, hb1⟩ : ∃ a n c, bv = .slice a n c := (by rw [<- hbv.out]; split; exact hv; exact ⟨_, _, _, rfl⟩); subst hb1; have ec : cN k vp = #[.int .i64 kd, .int .i64 hh, .int .i64 al, .int .i64 0, .slice none 0 0, .slice none 0 0, .slice ba bn bc, .int .u64 0, .int .u64 0] := (by rw [<- hkd.out, <- hhh.out, <- hal.out, <- hbv.out]; rfl); rw [ec]; have EC := Lib.hid ec; have B3 := Lib.hid (HA.out.mid _ hb).2; have R3 := Lib.hid (HA.out.mid _ hb).1; have c2 := B3.out.cell; have hlt2 := B3.out.lt; have L1 := Cl.load (show Cl (W2.alloc (.cells (callC kd hh al 0 nilS nilS (.slice ba bn bc)) 108)) W2.heap.size (callC kd hh al 0 nilS nilS (.slice ba bn bc)) from heap_at _ _ _ rfl); simp only [callC, callL, nilS] at L1; clear hp hv hb ec) | (gi_at_builtin; refine append_call_in rfl (.tmp 33) (.tmp 35) rfl rfl R3.out rfl rfl ?hc ?h1 ?hk ?hb ?_; (case hc => rfl); (case h1 => simp [Value.oneCell']); (case hk => omega); (case hb => have h5 := HH.out.2.2.size; rw [World.size_setCell] at h5; omega); intro v5 W5 O5 G5; (obtain ⟨g5, cap5, rfl⟩ := ownsRow_succ O5); (have B5 := Lib.hid (box_after B3.out R3.out G5)); have c5 := B5.out.cell; have f5 := B5.out.frozen; (have st5 := run_store1 W5 _ _ _ (.slice (some ⟨g5, 0, none⟩) (k + 1) cap5) c5 f5 rfl); have H5 := Lib.hid (And.intro O5 G5); clear O5 G5))
  have O5 : W5.ownsRow (w.heap.size + 5) 108 9 (.slice (some ⟨g5, 0, none⟩) (k + 1) cap5) (k + 1) (rowsN vb k ++ (cN k vp).toList) := by rw [EC.out]; exact H5.out.1
  obtain ⟨⟨vb', h1⟩, h2, h3⟩ := AI.step hsz0 hk HA.out hsW HH.out.2.2 HH.out.1 O5 _ _ H5.out.2
  rw [hsz0] at h2
  exact ⟨h2, h3, by have := h2.size; rw [World.size_setCell] at this; omega, _, vb', h1⟩
 case done =>
  rintro D W hD ⟨hsW, v, vb, hA⟩ hK
  clear h0 x5
  obtain ⟨g, cap, rfl⟩ := ownsRow_succ hA.row
  have c2 := hA.l.cell
  have f2 := hA.l.frozen
  have st2 := run_store1 W _ _ _ (.slice (some ⟨g, 0, none⟩) 3 cap) c2 f2 rfl
  have x2 := hA.l.set (.slice (some ⟨g, 0, none⟩) 3 cap)
  have x3 := hA.ln.kept (grownBy_setCell' W w.heap.size (.slice (some ⟨g, 0, none⟩) 3 cap)) (by simp)
  have x4 := hA.e.kept (grownBy_setCell' W w.heap.size (.slice (some ⟨g, 0, none⟩) 3 cap)) (by simp)
  have hr1 := World.ownsRow.kept (row := some w.heap.size) hA.row (grownBy_setCell' W w.heap.size (.slice (some ⟨g, 0, none⟩) 3 cap)) (.inr fun e => hA.l.not_row (by decide) hA.row e.symm)
  have st3 := run_store1 _ _ _ _ (.int .i64 0) x3.cell x3.frozen rfl
  have y4 := x4.kept (grownBy_setCell' _ (w.heap.size + 1) (.int .i64 0)) (by simp)
  have y2 := x2.kept (grownBy_setCell' _ (w.heap.size + 1) (.int .i64 0)) (by simp)
  have y3 := x3.set (.int .i64 0)
  have st4 : (storeRow ⟨w.heap.size + 1 + 1, 0, none⟩ [.int .i64 0]).run Tryz.prog ((W.setCell ⟨w.heap.size, 0, none⟩ (.slice (some ⟨g, 0, none⟩) 3 cap)).setCell ⟨w.heap.size + 1, 0, none⟩ (.int .i64 0)) = _ := run_store1 _ _ _ _ (.int .i64 0) y4.cell y4.frozen rfl
  have z2 := y2.kept (grownBy_setCell' _ (w.heap.size + 2) (.int .i64 0)) (by simp)
  have z3 := y3.kept (grownBy_setCell' _ (w.heap.size + 2) (.int .i64 0)) (by simp)
  have z4 := y4.set (.int .i64 0)
  have hr2 := World.ownsRow.kept (row := some (w.heap.size + 1)) hr1 (grownBy_setCell' _ (w.heap.size + 1) (.int .i64 0)) (.inr fun e => x3.not_row (by decide) hr1 e.symm)
  have hr3 := World.ownsRow.kept (row := some (w.heap.size + 2)) hr2 (grownBy_setCell' _ (w.heap.size + 2) (.int .i64 0)) (.inr fun e => y4.not_row (by decide) hr2 e.symm)
  have o0 := hA.byt (by omega)
  have o1 := World.ownsRow.kept (row := some w.heap.size) o0 (grownBy_setCell' W w.heap.size (.slice (some ⟨g, 0, none⟩) 3 cap)) (.inr fun e => hA.l.not_row (by decide) o0 e.symm)
  have o2 := World.ownsRow.kept (row := some (w.heap.size + 1)) o1 (grownBy_setCell' _ (w.heap.size + 1) (.int .i64 0)) (.inr fun e => x3.not_row (by decide) o1 e.symm)
  have o3 := World.ownsRow.kept (row := some (w.heap.size + 2)) o2 (grownBy_setCell' _ (w.heap.size + 2) (.int .i64 0)) (.inr fun e => y4.not_row (by decide) o2 e.symm)
  have hK1 := ((grownBy_setCell' W w.heap.size (.slice (some ⟨g, 0, none⟩) 3 cap)).block D (Array.getElem?_eq_some_iff.1 hK).1 (fun e => by cases e; omega)).trans hK
  have hK2 := ((grownBy_setCell' _ (w.heap.size + 1) (.int .i64 0)).block D (Array.getElem?_eq_some_iff.1 hK1).1 (fun e => by cases e; omega)).trans hK1
  have hK3 := ((grownBy_setCell' _ (w.heap.size + 2) (.int .i64 0)).block D (Array.getElem?_eq_some_iff.1 hK2).1 (fun e => by cases e; omega)).trans hK2
  have hB3 : Below w.heap.size w (((W.setCell ⟨w.heap.size, 0, none⟩ (.slice (some ⟨g, 0, none⟩) 3 cap)).setCell ⟨w.heap.size + 1, 0, none⟩ (.int .i64 0)).setCell ⟨w.heap.size + 2, 0, none⟩ (.int .i64 0)) := ((hA.bl.setCell (Nat.le_refl _) _).setCell (by show w.heap.size <= w.heap.size + 1; omega) _).setCell (by show w.heap.size <= w.heap.size + 2; omega) _
  have HF := Lib.hid (And.intro z2 (And.intro z3 (And.intro z4 (And.intro hr3 (And.intro o3 (And.intro hK3 hB3))))))
  clear x2 x3 x4 y2 y3 y4 z2 z3 z4 hr1 hr2 hr3 o0 o1 o2 o3 hK hK1 hK2 hK3 hB3 hA
  gi_wp2
  change bodyPostM _ _ _ _ _ _ _ (((W.setCell ⟨w.heap.size, 0, none⟩ (.slice (some ⟨g, 0, none⟩) 3 cap)).setCell ⟨w.heap.size + 1, 0, none⟩ (.int .i64 0)).setCell ⟨w.heap.size + 2, 0, none⟩ (.int .i64 0))
  obtain ⟨W6, hW6⟩ : ∃ W6, ((W.setCell ⟨w.heap.size, 0, none⟩ (.slice (some ⟨g, 0, none⟩) 3 cap)).setCell ⟨w.heap.size + 1, 0, none⟩ (.int .i64 0)).setCell ⟨w.heap.size + 2, 0, none⟩ (.int .i64 0) = W6 := ⟨_, rfl⟩
  rw [hW6] at HF ⊢
  obtain ⟨z2, z3, z4, hr, ho, hk, hb⟩ := HF.out
  have p2 : (W6.putObj D (.deferred none)).cell? ⟨w.heap.size, 0, none⟩ = some (.slice (some ⟨g, 0, none⟩) 3 cap) := (World.cell?_of_block (a := ⟨w.heap.size, 0, none⟩) (World.putObj_heap_other (by show w.heap.size ≠ D; omega))).trans z2.cell
  have p3 : (W6.putObj D (.deferred none)).cell? ⟨w.heap.size + 1, 0, none⟩ = some (.int .i64 0) := (World.cell?_of_block (a := ⟨w.heap.size + 1, 0, none⟩) (World.putObj_heap_other (by show w.heap.size + 1 ≠ D; omega))).trans z3.cell
  have p4 : (W6.putObj D (.deferred none)).cell? ⟨w.heap.size + 1 + 1, 0, none⟩ = some (.int .i64 0) := (World.cell?_of_block (a := ⟨w.heap.size + 2, 0, none⟩) (World.putObj_heap_other (by show w.heap.size + 2 ≠ D; omega))).trans z4.cell
  have q1 := ownsRow_putObj hr (.deferred none) hk rfl
  have q2 := ownsRow_putObj ho (.deferred none) hk rfl
  refine ⟨by simp, .inl ⟨_, _, rfl, run_takeDeferred hk, ?_⟩⟩
  refine ⟨.tuple #[.slice (some ⟨g, 0, none⟩) 3 cap, .int .i64 0, .int .i64 0], by simp [results, Tryz.results51, go_sem, p2, p3, p4], _, vb, rfl, ?_, owns_base (by omega) q2, hb.trans (belowK_b (w := w) (Nat.le_refl _) W6 D _ _ (by omega) hk rfl rfl)⟩
  refine ⟨q1.1, ?_⟩
  rcases q1.2 with h0 | ⟨g', cap', cur', hv, hbg, r⟩
  ·exact .inl h0
  ·exact .inr ⟨g', cap', cur', hv, by omega, r⟩
end
section
open Go Go.Conc Go.RowKit Go.Shelf Bt
theorem WGround.kept {b ib off len : Nat} {f : Nat -> Nat} {s : Spg} {w w1 : World} (h : WGround b ib off len f s w) (k : Kept w w1) : WGround b ib off len f s w1 where
 sp := by
  obtain ⟨t, fr, h1, h2⟩ := h.sp
  exact ⟨t, fr, (k.keep b (Array.getElem?_eq_some_iff.1 h1).1).trans h1, h2⟩
 tabs := ⟨fun j hj => k.cell (h.tabs.off j hj), fun j hj => k.cell (h.tabs.rc j hj)⟩
 tame := fun g hg => (h.tame g hg).kept k
 tib := h.tib.kept k
 inp := fun i hi => k.cell (h.inp i hi)
 bn := h.bn
 ok := h.ok
 room := h.room
 byte := h.byte
section
variable {b ib off len cap : Nat} {f : Nat -> Nat} {w : World} {s : Spg} {a0 : Option Addr} {hb a : Nat} {n1 n2 : Value}
set_option maxRecDepth 100000 in
theorem write1_co (hh : Hs w hb a n1 n2 b) (W0 : WGround b ib off len f s w) (hrd : s.rd = false) (hcap : len <= cap) (h0 : 0 < len -> a0 = some ⟨ib, off, none⟩) {pb rb : Nat} (hp : w.cell? ⟨pb, 0, none⟩ = some (.slice a0 len cap)) {u : Value} (hr : w.heap[rb]? = some (.cells #[u] 3 (0, 0))) (hbr : rb ≠ b) :
  CoCalls 220 #[.pointer (some ⟨hb, 0, none⟩), .pointer (some ⟨pb, 0, none⟩), .pointer (some ⟨rb, 0, none⟩)] w fun v w' => v = .int .i64 0 /\ Chg w w' [b, rb] /\ w'.heap[rb]? = some (.cells #[.int .i64 len] 3 (0, 0)) /\ ∃ s', Wrote s len f s' /\ Sp w' b s' := by
 refine CoCalls.body Tryz.func220 rfl rfl ?_
 simp only [Tryz.ntmps220, List.size_toArray, List.length_cons, List.length_nil, Nat.reduceAdd, Nat.reduceSub, Array.replicate_succ, Array.replicate_zero, List.push_toArray, List.append_toArray, List.nil_append, List.cons_append]
 refine wpC_still (by kernel_rfl) (by kernel_rfl) fun W hW K hK => ?_
 go_wp2
 refine hK.out _ (wpC_seq (by kernel_rfl) (wpC_region (wpO_still 0 2 (by decide) (by kernel_rfl) fun W hW K hK => ?_)))
 have k1 := hW.cell hp
 simp only [List.take_succ_cons, List.take_zero, List.drop_zero]
 go_wp2
 refine hK.out _ (wpO_call (f := 8) (args := #[.pointer (some ⟨hb, 0, none⟩), .slice a0 len cap]) rfl rfl (fun w => ⟨?_, ?_⟩) ?_)
 ·go_simp
 ·unfold execOp
  simp [go_sem]
  exact (callFunc_run Tryz.func8 rfl (by kernel_rfl) _ _).2
 refine (hwrite_co hh W0 hrd hcap h0).mono ?_
 rintro v w1 ⟨rfl, g1, s', hs', hS⟩
 have hr1 : w1.heap[rb]? = some (.cells #[u] 3 (0, 0)) := (g1.block _ (Array.getElem?_eq_some_iff.1 hr).1 (fun e => hbr (by cases e; rfl))).trans hr
 refine wpO_done 3 (by decide) (by kernel_rfl) fun W hW K hK => ?_
 have hrW := hW.obj _ _ hr1 rfl
 have c1 := cell_of_row W rb 0 _ _ _ hrW
 have f1 := Lib.frozen_of_heap hrW 0
 simp only [List.drop_succ_cons, List.drop_zero]
 go_wp2
 refine hK.out _ _ fun w2 S2 => ?_
 refine .inl ⟨by trivial, wpC_still (by kernel_rfl) (by kernel_rfl) fun W2 hW2 K2 hK2 => ?_⟩
 go_wp2
 refine hK2.out _ (wpC_ret ⟨rfl, .int .i64 0, fun W _ => ?_, rfl, ?_, S2.cells (one_set hrW _), s', hs', ?_⟩)
 ·rw [results_tmp rfl]
  rfl
 ·exact ((Chg.of_gb g1).wider (L' := [b, rb]) fun k _ hk => by simp at hk; simp [hk]).trans ((Chg.of_gb (S2.grown (gb_set W rb 0 _))).wider (L' := [b, rb]) fun k _ hk => by simp at hk; simp [hk])
 ·exact hS.grown (S2.grown (gb_set W rb 0 _)) (by simpa using Ne.symm hbr)
set_option maxRecDepth 100000 in
theorem with_co {db mb ck : Nat} (hd : Dk w db mb 1 #[⟨.int .i64 1, .pointer (some ⟨hb, 0, none⟩), ck⟩] 1) (hh : Hs w hb a n1 n2 b) (W0 : WGround b ib off len f s w) (hrd : s.rd = false) (hcap : len <= cap) (h0 : 0 < len -> a0 = some ⟨ib, off, none⟩) {pb rb : Nat} (hp : w.cell? ⟨pb, 0, none⟩ = some (.slice a0 len cap)) {u : Value} (hr : w.heap[rb]? = some (.cells #[u] 3 (0, 0))) (hbr : rb ≠ b) :
  CoCalls 217 #[.pointer (some ⟨db, 0, none⟩), .int .i64 1, .func (.func 220) #[] #[.pointer (some ⟨pb, 0, none⟩), .pointer (some ⟨rb, 0, none⟩)]] w fun v w' => v = .int .i64 0 /\ Chg w w' [b, rb] /\ w'.heap[rb]? = some (.cells #[.int .i64 len] 3 (0, 0)) /\ ∃ s', Wrote s len f s' /\ Sp w' b s' := by
 obtain ⟨d0, _, _⟩ := hd.cells
 refine CoCalls.body Tryz.func217 rfl rfl ?_
 simp only [Tryz.ntmps217, List.size_toArray, List.length_cons, List.length_nil, Nat.reduceAdd, Nat.reduceSub, Array.replicate_succ, Array.replicate_zero, List.push_toArray, List.append_toArray, List.nil_append, List.cons_append]
 refine wpC_still (by kernel_rfl) (by kernel_rfl) fun W hW K hK => ?_
 go_wp2
 refine hK.out _ (wpC_still (by kernel_rfl) (by kernel_rfl) fun W hW K hK => ?_)
 have k0 := hW.cell d0
 have hu := run_lookup_hit (w := W) (T := 167) (v := .pointer (some ⟨hb, 0, none⟩)) (key := 1) (ok := true) Tryz.underlying167 Tryz.underlying3 (hW.obj _ _ hd.m rfl) (i := 0) (by rfl)
 go_wp2
 refine hK.out _ (wpC_still (by kernel_rfl) (by kernel_rfl) fun W hW K hK => ?_)
 go_wp2
 refine hK.out _ (wpC_seq (by kernel_rfl) (wpC_region (wpO_still 0 2 (by decide) (by kernel_rfl) fun W hW K hK => ?_)))
 simp only [List.take_succ_cons, List.take_zero, List.drop_zero]
 go_wp2
 refine hK.out _ (wpO_call (f := 220) (args := #[.pointer (some ⟨hb, 0, none⟩), .pointer (some ⟨pb, 0, none⟩), .pointer (some ⟨rb, 0, none⟩)]) rfl rfl (fun w => ⟨?_, ?_⟩) ?_)
 ·go_simp
 ·unfold execOp
  simp [go_sem]
  exact (callFunc_run Tryz.func220 rfl (by kernel_rfl) _ _).2
 refine (write1_co hh W0 hrd hcap h0 hp hr hbr).mono ?_
 rintro v w1 ⟨rfl, q⟩
 refine wpO_done 3 (by decide) (by kernel_rfl) fun W hW K hK => ?_
 simp only [List.drop_succ_cons, List.drop_zero]
 go_wp2
 refine hK.out _ _ fun w2 S2 => ?_
 rw [S2.same]
 refine .inl ⟨by trivial, wpC_at (wpC_ret ⟨rfl, .int .i64 0, fun W _ => ?_, rfl, q⟩)⟩
 rw [results_tmp rfl]
 rfl
end
end
section
open Go Go.Conc Go.RowKit Go.Shelf Bt
attribute [local go_sem] lt_s2 lt_s3 lt_s4 lt_s5 lt_s6
theorem Kept.bel {w w1 : World} (h : Kept w w1) : Below w.heap.size w w1 := ⟨h.os, h.tape, h.output, h.size, h.keep⟩
theorem Kept.chg {w w1 : World} (h : Kept w w1) (L : List Nat) : Chg w w1 L := ⟨h.os, h.output, h.tape, h.size, fun k hk _ => h.keep k hk⟩
section
variable {b ib off len cap : Nat} {f : Nat -> Nat} {w : World} {s : Spg} {a0 : Option Addr} {hb a : Nat} {n1 n2 : Value}
set_option maxRecDepth 100000 in
theorem dwrite_co {db mb ck : Nat} (hd : Dk w db mb 1 #[⟨.int .i64 1, .pointer (some ⟨hb, 0, none⟩), ck⟩] 1) (hh : Hs w hb a n1 n2 b) (W0 : WGround b ib off len f s w) (hrd : s.rd = false) (hcap : len <= cap) (h0 : 0 < len -> a0 = some ⟨ib, off, none⟩) :
  CoCalls 153 #[.pointer (some ⟨db, 0, none⟩), .int .i64 1, .slice a0 len cap] w fun v w' => v = .tuple #[.int .i64 len, .int .i64 0] /\ Chg w w' [b] /\ ∃ s', Wrote s len f s' /\ Sp w' b s' := by
 have hlb := W0.sp.lt
 refine CoCalls.body Tryz.func153 rfl rfl ?_
 simp only [Tryz.ntmps153, List.size_toArray, List.length_cons, List.length_nil, Nat.reduceAdd, Nat.reduceSub, Array.replicate_succ, Array.replicate_zero, List.push_toArray, List.append_toArray, List.nil_append, List.cons_append]
 refine wpC_go (by kernel_rfl) (by kernel_rfl) fun W hW K hK => ?_
 go_wp2
 rw [hW.size]
 refine hK.out _ _ fun w1 S1 => ?_
 have k1 := S1.kept (bl_alloc (bl_alloc (bl_refl W)))
 have hp1 : w1.heap[w.heap.size]? = some (.cells #[.slice a0 len cap] 22 (0, 0)) := S1.cells (by rw [<- hW.size]; exact heap_past _ _ _ _ (by simp) (heap_at _ _ _ rfl))
 have hr1 : w1.heap[w.heap.size + 1]? = some (.cells #[.int .i64 0] 3 (0, 0)) := S1.cells (by rw [<- hW.size]; exact heap_at _ _ _ (by simp))
 have c1 := cell_of_row w1 w.heap.size 0 _ _ _ hp1
 refine wpC_seq (by kernel_rfl) (wpC_region (wpO_still 0 3 (by decide) (by kernel_rfl) fun W hW K hK => ?_))
 simp only [List.take_succ_cons, List.take_zero, List.drop_zero]
 go_wp2
 refine hK.out _ (wpO_call (f := 217) (args := #[.pointer (some ⟨db, 0, none⟩), .int .i64 1, .func (.func 220) #[] #[.pointer (some ⟨w.heap.size, 0, none⟩), .pointer (some ⟨w.heap.size + 1, 0, none⟩)]]) rfl rfl (fun w => ⟨?_, ?_⟩) ?_)
 ·go_simp
 ·unfold execOp
  simp [go_sem]
  exact (callFunc_run Tryz.func217 rfl (by kernel_rfl) _ _).2
 refine (with_co (hd.below k1.bel) ((k1.keep _ (Array.getElem?_eq_some_iff.1 hh).1).trans hh) (W0.kept k1) hrd hcap h0 c1 hr1 (by omega)).mono ?_
 rintro v w2 ⟨rfl, g2, hr2, s', hs', hS⟩
 refine wpO_done 4 (by decide) (by kernel_rfl) fun W hW K hK => ?_
 simp only [List.drop_succ_cons, List.drop_zero]
 go_wp2
 refine hK.out _ _ fun w3 S3 => ?_
 rw [S3.same]
 refine .inl ⟨by trivial, wpC_at (wpC_go (by kernel_rfl) (by kernel_rfl) fun W hW K hK => ?_)⟩
 have hrW := hW.obj _ _ hr2 rfl
 have c2 := cell_of_row W (w.heap.size + 1) 0 _ _ _ hrW
 have f2 := Lib.frozen_of_heap hrW 0
 go_wp2
 refine hK.out _ _ fun w4 S4 => ?_
 have g4 := S4.grown (gb_set W (w.heap.size + 1) 0 _)
 have hr4 := S4.cells (one_set hrW (.int .i64 len))
 refine wpC_ret ⟨rfl, .tuple #[.int .i64 len, .int .i64 0], fun W hW => ?_, rfl, ?_, s', hs', hS.grown g4 (by intro e; cases e; omega)⟩
 ·have k5 := cell_of_row W (w.heap.size + 1) 0 _ _ _ (hW.obj _ _ hr4 rfl)
  simp [results, Tryz.results153, go_sem, k5]
 ·have s1 := k1.size
  have s2 := g2.size
  exact ⟨by rw [g4.os, g2.os, k1.os], by rw [g4.output, g2.output, k1.output], by rw [g4.tape, g2.tape, k1.tape], by have := g4.size; omega, fun k hk hr => by rw [g4.block k (by omega) (fun e => by cases e; omega), g2.keep k (by omega) (by simp at hr ⊢; omega), k1.keep k hk]⟩
set_option maxRecDepth 100000 in
theorem ways4_co {db mb ck : Nat} (hd : Dk w db mb 1 #[⟨.int .i64 1, .pointer (some ⟨hb, 0, none⟩), ck⟩] 1) (hh : Hs w hb a n1 n2 b) (W0 : WGround b ib off len f s w) (hrd : s.rd = false) (hcap : len <= cap) (h0 : 0 < len -> a0 = some ⟨ib, off, none⟩) (hlen : len < 100) {kind alg n : Int} :
  CoCalls 152 #[.pointer (some ⟨db, 0, none⟩), .agg (callC kind 1 alg n nilS nilS (.slice a0 len cap))] w fun v w' => v = .string (decW len) /\ Chg w w' [b] /\ ∃ s', Wrote s len f s' /\ Sp w' b s' := by
 refine CoCalls.body Tryz.func152 rfl rfl ?_
 simp only [Tryz.ntmps152, List.size_toArray, List.length_cons, List.length_nil, Nat.reduceAdd, Nat.reduceSub, Array.replicate_succ, Array.replicate_zero, List.push_toArray, List.append_toArray, List.nil_append, List.cons_append]
 refine wpC_go (by kernel_rfl) (by kernel_rfl) fun W hW K hK => ?_
 simp only [callC, callL]
 go_wp2
 rw [hW.size]
 refine hK.out _ _ fun w1 S1 => ?_
 have k1 := S1.kept (bl_alloc (bl_refl W))
 have hp1 : w1.heap[w.heap.size]? = some (.cells (callC kind 1 alg n nilS nilS (.slice a0 len cap)) 108 (0, 0)) := S1.cells (by rw [<- hW.size]; exact heap_at _ _ _ rfl)
 have c1 : w1.cell? ⟨w.heap.size, 1, none⟩ = some (.int .i64 1) := cell_of_row w1 w.heap.size 1 _ _ _ hp1
 have c6 : w1.cell? ⟨w.heap.size, 6, none⟩ = some (.slice a0 len cap) := cell_of_row w1 w.heap.size 6 _ _ _ hp1
 refine wpC_seq (by kernel_rfl) (wpC_region (wpO_still 0 5 (by decide) (by kernel_rfl) fun W hW K hK => ?_))
 have d1 := hW.cell c1
 have d6 := hW.cell c6
 simp only [List.take_succ_cons, List.take_zero, List.drop_zero]
 go_wp2
 refine hK.out _ (wpO_call (f := 153) (args := #[.pointer (some ⟨db, 0, none⟩), .int .i64 1, .slice a0 len cap]) rfl rfl (fun w => ⟨?_, ?_⟩) ?_)
 ·go_simp
 ·unfold execOp
  simp [go_sem]
  exact (callFunc_run Tryz.func153 rfl (by kernel_rfl) _ _).2
 refine (dwrite_co (hd.below k1.bel) ((k1.keep _ (Array.getElem?_eq_some_iff.1 hh).1).trans hh) (W0.kept k1) hrd hcap h0).mono ?_
 rintro v w2 ⟨rfl, g2, s', hs', hS⟩
 have CN := Lib.hid (fun W => numbered_w len hlen W)
 refine wpO_done 6 (by decide) (by kernel_rfl) fun W hW K hK => ?_
 simp only [List.drop_succ_cons, List.drop_zero]
 go_wp2_with (go_at_call 146; (refine (CN.out _).mono ?_); rintro e w' ⟨rfl, rfl⟩)
 refine hK.out _ _ fun w3 S3 => ?_
 rw [S3.same]
 refine .inl ⟨by trivial, wpC_at (wpC_ret ⟨rfl, .string (decW len), fun W _ => ?_, rfl, ?_, s', hs', hS⟩)⟩
 ·rw [results_tmp rfl]
  rfl
 ·exact (k1.chg [b]).trans g2
end
end
end Go.Proofs.YtdobjciaikofdaaGreatDoor
