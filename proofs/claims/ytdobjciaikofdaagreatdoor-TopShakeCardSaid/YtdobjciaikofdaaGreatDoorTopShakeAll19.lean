/- Part 19 of 39 of what the proof of this law needs. Put together by a program out of the texts: WrH WrI LnA. -/
import Derived.Test.YtdobjciaikofdaaGreatDoorTopShakeAll18
import Derived.Orders
import Derived.Conc.CompanyDraw
import Derived.Conc.Beside
namespace Go.Proofs.YtdobjciaikofdaaGreatDoor
section
open Go Go.Conc Go.RowKit
noncomputable def bPt : Code := (Tryz.f171.body).getD .skip
noncomputable def pP0 : Code := cF bPt
noncomputable def pP1 : Code := cF (cS bPt)
noncomputable def pP2 : Code := cF (cS (cS bPt))
noncomputable def pP3 : Code := cF (cS (cS (cS bPt)))
theorem bPt_is : bPt = .seq pP0 (.seq pP1 (.seq pP2 (.seq pP3 .ret))) := by kernel_rfl
theorem pP2_is : pP2 = .region 2 (cO pP2) false := by kernel_rfl
theorem pP3_is : pP3 = .region 3 (cO pP3) false := by kernel_rfl
theorem lsP2 : List.range (cO pP2).size = [0, 1] := by kernel_rfl
theorem lsP3 : List.range (cO pP3).size = [0, 1] := by kernel_rfl
theorem opP2_0 : ∃ o, (cO pP2)[0]? = some o /\ o.op = .makeFunc (.func 230) #[] #[.tmp 9, .tmp 5, .tmp 4, .tmp 6, .tmp 7] /\ o.dst = some 11 /\ o.guard = none := ⟨_, rfl, rfl, rfl, rfl⟩
theorem opP2_1 : ∃ o, (cO pP2)[1]? = some o /\ o.op = .go ⟨.value (.tmp 11), #[], #[]⟩ /\ o.dst = none /\ o.guard = none := ⟨_, rfl, rfl, rfl, rfl⟩
theorem opP3_0 : ∃ o, (cO pP3)[0]? = some o /\ o.op = .load 284 (.tmp 9) /\ o.dst = some 12 /\ o.guard = none := ⟨_, rfl, rfl, rfl, rfl⟩
theorem opP3_1 : ∃ o, (cO pP3)[1]? = some o /\ o.op = .assign (.tmp 12) /\ o.dst = some 8 /\ o.guard = none := ⟨_, rfl, rfl, rfl, rfl⟩
theorem opW5_15 : ∃ o, (cO pW5)[15]? = some o /\ o.op = .call ⟨.value (.func 171), #[.tmp 14, .tmp 23, .tmp 27, .tmp 28], #[22, 3, 3, 283]⟩ /\ o.dst = some 29 /\ o.guard = none := ⟨_, rfl, rfl, rfl, rfl⟩
theorem kindP : (base 171).kind ≠ .early := by intro h; cases h
noncomputable def frU (st : Nat) (T : Array Value) : Frame := (base 105).at ⟨T, [dcloseW st]⟩ [.inRegion (cO pW5) [15], .code (.block 0 (.loop LWr)), .code (.seq pW12 .ret)]
section
variable {a : Act} {o : Oper}
theorem run_makeFuncU {v9 v5 v4 v6 v7 : Value} (hop : o.op = .makeFunc (.func 230) #[] #[.tmp 9, .tmp 5, .tmp 4, .tmp 6, .tmp 7]) (h9 : a.eval (.tmp 9) = v9) (h5 : a.eval (.tmp 5) = v5) (h4 : a.eval (.tmp 4) = v4) (h6 : a.eval (.tmp 6) = v6) (h7 : a.eval (.tmp 7) = v7) (w : World) : (execOp a.eval o).run Tryz.prog w = .ok (.value (.func (.func 230) #[] #[v9, v5, v4, v6, v7])) w /\ (execOp a.eval o).events Tryz.prog w #[] = #[] := by
 have h1 : (#[(.tmp 9 : Operand), .tmp 5, .tmp 4, .tmp 6, .tmp 7]).map a.eval = #[v9, v5, v4, v6, v7] := by rw [<- h9, <- h5, <- h4, <- h6, <- h7]; simp
 have h2 : (#[] : Array Operand).map a.eval = #[] := by simp
 unfold execOp
 simp only [hop, h1, h2]
 constructor
 ·simp [go_sem]
 ·simp [go_sem]
theorem run_goU {oc fb bb rb sb : Nat} (hop : o.op = .go ⟨.value (.tmp 11), #[], #[]⟩) (hx : a.eval (.tmp 11) = .func (.func 230) #[] #[.pointer (some ⟨oc, 0, none⟩), .pointer (some ⟨fb, 0, none⟩), .pointer (some ⟨bb, 0, none⟩), .pointer (some ⟨rb, 0, none⟩), .pointer (some ⟨sb, 0, none⟩)]) (w : World) : (execOp a.eval o).run Tryz.prog w = .ok (.spawn (dgoU oc fb bb rb sb)) w /\ (execOp a.eval o).events Tryz.prog w #[] = #[] := by
 have h2 : (#[] : Array Operand).map a.eval = #[] := by simp
 unfold execOp
 simp only [hop, resolve, hx, h2]
 constructor
 ·simp [Deferred.ofValue, dgoU]
 ·simp [Deferred.ofValue]
end
section
variable {b ib off len cap c st oc fb bb rb sb n : Nat} {f : Nat -> Nat} {w0 w : World} {S : BSet} {s : Spg} {a0 : Option Addr} {Post : Value -> World -> Prop}
theorem tail_U (ge : UGeo b ib st S) (so : S oc) {X : BSet -> Goroutine -> World -> Prop} (hX : Closed Tryz.prog true S X) (x0 x1 x2 x3 x4 x5 x6 x7 x8 x10 x11 x12 : Value) {sl : Value} {T : Array Value} (hT : T.size = 68 /\ T[0]? = some (.pointer (some ⟨b, 0, none⟩)) /\ T[1]? = some sl /\ T[6]? = some (.chan (some st))) {cs : List Frame}
  (h : ∀ T' : Array Value, UT b st c sl T' -> All X (MU b ib off len st f w0 S s) (G ((base 105).at ⟨T', [dcloseW st]⟩ [.code LWr, .inLoop LWr, .inBlock 0, .code (.seq pW12 .ret)]) cs)) :
  All X (fun O w => MU b ib off len st f w0 S s O w /\ w.cell? ⟨oc, 0, none⟩ = some (.chan (some c))) (G ((base 171).at ⟨#[x0, x1, x2, x3, x4, x5, x6, x7, x8, .pointer (some ⟨oc, 0, none⟩), x10, x11, x12], []⟩ [.inRegion (cO pP2) [], .code (.seq pP3 .ret)]) (frU st T :: cs)) := by
 have hst2 := MU.stab (off := off) (len := len) (f := f) (w0 := w0) (s := s) ge
 have hst : Stab S (fun O w => MU b ib off len st f w0 S s O w /\ w.cell? ⟨oc, 0, none⟩ = some (.chan (some c))) := fun O w w1 h R => ⟨hst2 O w w1 h.1 R, by rw [heap_cell (R.keep oc (.inr so))]; exact h.2⟩
 refine All.ctl hX hst (fun w => stepG_region_end) (All.ctl hX hst (fun w => stepG_seq) (All.ctl hX hst (fun w => step_reg pP3_is lsP3) ?_))
 obtain ⟨o, h1, h2, h3, h4⟩ := opP3_0
 refine All.load hX hst (.chan (some c)) ⟨oc, 0, none⟩ h1 (wanted_none h4 _) kindP (fun w hw => run_loadCh h2 rfl w hw) (fun O w hi => ⟨hi.2, .inr so⟩) ?_
 rw [h3]
 simp only [Act.put, List.setIfInBounds_toArray, List.set_cons_zero, List.set_cons_succ]
 clear h1 h2 h3 h4 o
 obtain ⟨o, h1, h2, h3, h4⟩ := opP3_1
 refine All.val hX hst (.chan (some c)) h1 (wanted_none h4 _) kindP (fun w => (run_assign h2 w).1) (fun w => (run_assign h2 w).2) ?_
 rw [h3]
 simp only [Act.put, List.setIfInBounds_toArray, List.set_cons_zero, List.set_cons_succ]
 clear h1 h2 h3 h4 o
 refine All.ctl hX hst (fun w => stepG_region_end) (All.ctl hX hst (fun w => stepG_ret') ?_)
 have hres : Tryz.f171.results = #[.tmp 8] := rfl
 refine All.ctl hX hst (fun w => stepG_leave (v := .chan (some c)) rfl rfl Tryz.func171 (by rw [results_tmp hres]; rfl) (events_results_tmp hres _ _)) ?_
 obtain ⟨o3, c1, c2, c3, c4⟩ := opW5_15
 have hfin : (frU st T).finish (.chan (some c)) = (base 105).at ⟨T.setIfInBounds 29 (.chan (some c)), [dcloseW st]⟩ [.inRegion (cO pW5) [], .code (.block 0 (.loop LWr)), .code (.seq pW12 .ret)] := by
  have := Frame.finish_at (base 105) ⟨T, [dcloseW st]⟩ (cO pW5) 15 [] [.code (.block 0 (.loop LWr)), .code (.seq pW12 .ret)] (.chan (some c))
  rw [c1, Option.bind_some, c3] at this
  exact this
 rw [hfin]
 refine All.ctl hX hst (fun w => stepG_region_end) (All.ctl hX hst (fun w => stepG_block) (All.ctl hX hst (fun w => stepG_loop) ?_))
 intro O w hi
 refine h _ ⟨by simpa using hT.1, ?_, ?_, ?_, ?_⟩ O w hi.1
 ·rw [Array.getElem?_setIfInBounds_ne (by decide)]; exact hT.2.1
 ·rw [Array.getElem?_setIfInBounds_ne (by decide)]; exact hT.2.2.1
 ·rw [Array.getElem?_setIfInBounds_ne (by decide)]; exact hT.2.2.2
 ·exact Array.getElem?_setIfInBounds_self_of_lt (by rw [hT.1]; decide)
structure WGround (b ib off len : Nat) (f : Nat -> Nat) (s : Spg) (w : World) : Prop where
 sp : Sp w b s
 tabs : TabK w
 tame : ∀ g, niceG.contains g = true -> Tame w g
 tib : Tame w ib
 inp : ∀ i, i < len -> w.cell? ⟨ib, off + i, none⟩ = some (.int .u8 (f i))
 bn : b ∉ LsU ib
 ok : s.Ok
 room : s.at_ < s.rate
 byte : ∀ i, i < len -> f i < 256
set_option maxHeartbeats 4000000 in
theorem go_U (W0 : WGround b ib off len f s w0) (hk : Kept w0 w) (hcap : len <= cap) (h0 : 0 < len -> a0 = some ⟨ib, off, none⟩) (hn1 : ∀ j, j < n -> 0 < lU off len cap (s.rate - s.at_) s.rate j) (hn2 : lU off len cap (s.rate - s.at_) s.rate n = 0)
  (ge0 : ∀ x ∈ [oc, fb, bb, rb, sb, c, st], w0.heap.size <= x) (nd : [oc, fb, bb, rb, sb, c, st].Nodup)
  (co : w.cell? ⟨oc, 0, none⟩ = some (.chan (some c))) (cf : w.cell? ⟨fb, 0, none⟩ = some (.int .i64 (s.rate - s.at_ : Nat))) (cb : w.cell? ⟨bb, 0, none⟩ = some (.slice a0 len cap)) (fz : w.frozen? ⟨bb, 0, none⟩ = false) (cr : w.cell? ⟨rb, 0, none⟩ = some (.int .i64 s.rate)) (cs' : w.cell? ⟨sb, 0, none⟩ = some (.chan (some st)))
  {tm1 tm2 : Bool} (hch : w.heap[c]? = some (.chan 0 #[] false 0 0 tm1)) (hst : w.heap[st]? = some (.chan 0 #[] false 0 0 tm2)) (x0 x1 x2 x3 x8 x10 x12 : Value)
  {T : Array Value} (hT : T.size = 68 /\ T[0]? = some (.pointer (some ⟨b, 0, none⟩)) /\ T[1]? = some (.slice a0 len cap) /\ T[6]? = some (.chan (some st))) {cs : List Frame}
  (hEnd : ∀ (w' : World) (T' : Array Value) (tm : Bool), w0.grownBy w' (some b) -> Sp w' b (sU s len cap off f n) -> w'.heap[st]? = some (.chan 0 #[] false 0 0 tm) -> UT b st c (.slice a0 len cap) T' -> RunsOn Tryz.prog Post (G ((base 105).at ⟨T', [dcloseW st]⟩ [.code (.seq pW12 .ret)]) cs) w') :
  RunsOn Tryz.prog Post (G ((base 171).at ⟨#[x0, x1, x2, x3, .pointer (some ⟨bb, 0, none⟩), .pointer (some ⟨fb, 0, none⟩), .pointer (some ⟨rb, 0, none⟩), .pointer (some ⟨sb, 0, none⟩), x8, .pointer (some ⟨oc, 0, none⟩), x10, .func (.func 230) #[] #[.pointer (some ⟨oc, 0, none⟩), .pointer (some ⟨fb, 0, none⟩), .pointer (some ⟨bb, 0, none⟩), .pointer (some ⟨rb, 0, none⟩), .pointer (some ⟨sb, 0, none⟩)], x12], []⟩ [.inRegion (cO pP2) [1], .code (.seq pP3 .ret)]) (frU st T :: cs)) w := by
 have hne : bb ≠ oc /\ bb ≠ fb /\ bb ≠ rb /\ bb ≠ sb := by
  simp only [List.nodup_cons, List.mem_cons, List.not_mem_nil, or_false, not_or, List.nodup_nil, and_true] at nd
  obtain ⟨⟨n1, n2, n3, n4, n5, n6⟩, ⟨n7, n8, n9, n10, n11⟩, ⟨n12, n13, n14, n15⟩, ⟨n16, n17, n18⟩, ⟨n19, n20⟩, n21, _⟩ := nd
  exact ⟨fun e => n2 e.symm, fun e => n7 e.symm, n12, n13⟩
 have D1 : ∀ x, (x = fb \/ x = bb \/ x = rb \/ x = sb) -> x ≠ oc /\ x ≠ st /\ x ≠ c := by
  simp only [List.nodup_cons, List.mem_cons, List.not_mem_nil, or_false, not_or, List.nodup_nil, and_true] at nd
  obtain ⟨⟨n1, n2, n3, n4, n5, n6⟩, ⟨n7, n8, n9, n10, n11⟩, ⟨n12, n13, n14, n15⟩, ⟨n16, n17, n18⟩, ⟨n19, n20⟩, n21, _⟩ := nd
  rintro x (rfl | rfl | rfl | rfl)
  ·exact ⟨fun e => n1 e.symm, n11, n10⟩
  ·exact ⟨fun e => n2 e.symm, n15, n14⟩
  ·exact ⟨fun e => n3 e.symm, n18, n17⟩
  ·exact ⟨fun e => n4 e.symm, n20, n19⟩
 have D2 : c ≠ oc /\ c ≠ st := by
  simp only [List.nodup_cons, List.mem_cons, List.not_mem_nil, or_false, not_or, List.nodup_nil, and_true] at nd
  obtain ⟨⟨n1, n2, n3, n4, n5, n6⟩, ⟨n7, n8, n9, n10, n11⟩, ⟨n12, n13, n14, n15⟩, ⟨n16, n17, n18⟩, ⟨n19, n20⟩, n21, _⟩ := nd
  exact ⟨fun e => n5 e.symm, n21⟩
 have HNE := Lib.hid hne
 have HD2 := Lib.hid D2
 clear nd hne D2
 have g1 := ge0 oc (by simp)
 have g2 := ge0 fb (by simp)
 have g3 := ge0 bb (by simp)
 have g4 := ge0 rb (by simp)
 have g5 := ge0 sb (by simp)
 have g6 := ge0 c (by simp)
 have g7 := ge0 st (by simp)
 have hsz := hk.size
 have hbl := W0.sp.lt
 have hibl := W0.tib.lt
 have hnice : ∀ g, niceG.contains g = true -> g < w0.heap.size := fun g hg => (W0.tame g hg).lt
 have ln1 := hnice 8 rfl
 have ln2 := hnice 9 rfl
 have ln3 := hnice 10 rfl
 have ln4 := hnice 19 rfl
 have ln5 := hnice 20 rfl
 obtain ⟨S, hS⟩ : ∃ S : BSet, S = fun x => x ∈ LsU ib \/ x = oc \/ x = st := ⟨_, rfl⟩
 have hSm : ∀ x, S x ↔ (x ∈ LsU ib \/ x = oc \/ x = st) := fun x => by rw [hS]
 obtain ⟨O1, hO1⟩ : ∃ O : BSet, O = fun x => x = fb \/ x = bb \/ x = rb \/ x = sb := ⟨_, rfl⟩
 have hOm : ∀ x, O1 x ↔ (x = fb \/ x = bb \/ x = rb \/ x = sb) := fun x => by rw [hO1]
 obtain ⟨O0, hO0⟩ : ∃ O : BSet, O = fun x => x < w.heap.size /\ x ≠ c /\ ¬ S x /\ ¬ O1 x := ⟨_, rfl⟩
 have hZm : ∀ x, O0 x ↔ (x < w.heap.size /\ x ≠ c /\ ¬ S x /\ ¬ O1 x) := fun x => by rw [hO0]
 have hls : ∀ x, x ∈ LsU ib -> x < w0.heap.size := fun x hx => by
  unfold LsU at hx
  simp only [List.mem_cons, List.not_mem_nil, or_false] at hx
  omega
 have hnl : ∀ x, w0.heap.size <= x -> x ∉ LsU ib := fun x h1 h2 => by have := hls x h2; omega
 have lt : ∀ {x : Nat} {v : Value}, w.cell? ⟨x, 0, none⟩ = some v -> x < w.heap.size := fun h => World.block_lt_of_cell? w _ h
 have l1 := lt co
 have l2 := lt cf
 have l3 := lt cb
 have l4 := lt cr
 have l5 := lt cs'
 have l6 := (Array.getElem?_eq_some_iff.1 hch).1
 have l7 := (Array.getElem?_eq_some_iff.1 hst).1
 have bne := W0.bn
 have ge : UGeo b ib st S := ⟨fun g hg => (hSm g).2 (.inl (nice_mem b ib hg).1), (hSm ib).2 (.inl (by unfold LsU; simp)), bne, (hSm st).2 (.inr (.inr rfl)), fun hm => by
  have h1 : st = b \/ st ∈ LsU ib := by
   unfold LU at hm
   unfold LsU
   simp only [List.mem_cons, List.not_mem_nil, or_false] at hm ⊢
   omega
  rcases h1 with rfl | h1
  ·omega
  ·exact hnl st g7 h1⟩
 have so : S oc := (hSm oc).2 (.inr (.inl rfl))
 have WU0 : WU c st oc fb bb rb sb (s.rate - s.at_) s.rate (.slice a0 len cap) O1 w := ⟨(hOm fb).2 (.inl rfl), (hOm bb).2 (.inr (.inl rfl)), (hOm rb).2 (.inr (.inr (.inl rfl))), (hOm sb).2 (.inr (.inr (.inr rfl))), co, cf, cb, fz, cr, cs'⟩
 have hbt : b ≠ 8 /\ b ≠ 9 := by
  unfold LsU at bne
  simp only [List.mem_cons, List.not_mem_nil, or_false] at bne
  omega
 have MU0 : MU b ib off len st f w0 S (sU s len cap off f 0) O0 w := by
  obtain ⟨t, ht⟩ := W0.sp.rowC
  have hb2 := ht.of_eq (hk.keep b hbl)
  refine ⟨(hZm b).2 ⟨by omega, by omega, fun h => ?_, fun h => ?_⟩, ⟨t, hb2⟩, ⟨fun j hj => hk.cell (W0.tabs.off j hj), fun j hj => hk.cell (W0.tabs.rc j hj)⟩, fun g hg => (W0.tame g hg).kept hk, W0.tib.kept hk, fun i hi => hk.cell (W0.inp i hi), ⟨hk.os, hk.tape, hk.output, hk.size, fun x hx _ => hk.keep x hx⟩, fun x hx => ?_, tm2, hst⟩
  ·rcases (hSm b).1 h with h | h | h
   ·exact bne h
   ·omega
   ·omega
  ·have := (hOm b).1 h
   omega
  ·by_cases hs : S x
   ·exact .inr hs
   ·refine .inl ((hZm x).2 ⟨by omega, by omega, hs, fun h => ?_⟩)
    have := (hOm x).1 h
    omega
 have geo : Geo O0 O1 S c := by
  refine ⟨fun x h1 h2 => ((hZm x).1 h1).2.2.2 h2, fun x h1 h2 => ((hZm x).1 h1).2.2.1 h2, fun x h1 h2 => ?_, fun h => ((hZm c).1 h).2.1 rfl, fun h => ?_, fun h => ?_⟩
  ·have h1' := (hOm x).1 h1
   rcases (hSm x).1 h2 with h | h | h
   ·have := hls x h
    omega
   ·exact (D1 x h1').1 h
   ·exact (D1 x h1').2.1 h
  ·exact (D1 c ((hOm c).1 h)).2.2 rfl
  ·rcases (hSm c).1 h with h | h | h
   ·have := hls c h
    omega
   ·exact HD2.out.1 h
   ·exact HD2.out.2 h
 have los : ∀ x, S x -> x < w.heap.size := fun x h => by
  rcases (hSm x).1 h with h | h | h
  ·have := hls x h
   omega
  ·omega
  ·omega
 have lo1 : ∀ x, O1 x -> x < w.heap.size := fun x h => by
  have := (hOm x).1 h
  omega
 obtain ⟨o, a1, a2, a3, a4⟩ := opP2_1
 have hne := HNE.out
 refine fin_spawnU (S := S) (c := c) (st := st) (n := n) (z := .slice none 0 0) (zs := .slice none 0 0) (z2 := .agg #[]) (vals := valU ib off len cap (s.rate - s.at_) s.rate) (O0 := O0) (O1 := O1) (g' := G ((base 171).at ⟨#[x0, x1, x2, x3, .pointer (some ⟨bb, 0, none⟩), .pointer (some ⟨fb, 0, none⟩), .pointer (some ⟨rb, 0, none⟩), .pointer (some ⟨sb, 0, none⟩), x8, .pointer (some ⟨oc, 0, none⟩), x10, .func (.func 230) #[] #[.pointer (some ⟨oc, 0, none⟩), .pointer (some ⟨fb, 0, none⟩), .pointer (some ⟨bb, 0, none⟩), .pointer (some ⟨rb, 0, none⟩), .pointer (some ⟨sb, 0, none⟩)], x12], []⟩ [.inRegion (cO pP2) [], .code (.seq pP3 .ret)]) (frU st T :: cs)) (child := born Tryz.prog (dgoU oc fb bb rb sb)) rfl (fun d => ?_) ?_ (plan_U so hne h0 hcap hn1 hn2 O1 w WU0) geo (fun x hx => ((hZm x).1 hx).1) lo1 los ⟨0, 0, tm1, hch⟩ ⟨0, 0, tm2, hst⟩ ge.sst
 ·have hrg := run_goU (oc := oc) (fb := fb) (bb := bb) (rb := rb) (sb := sb) (a := ⟨#[x0, x1, x2, x3, .pointer (some ⟨bb, 0, none⟩), .pointer (some ⟨fb, 0, none⟩), .pointer (some ⟨rb, 0, none⟩), .pointer (some ⟨sb, 0, none⟩), x8, .pointer (some ⟨oc, 0, none⟩), x10, .func (.func 230) #[] #[.pointer (some ⟨oc, 0, none⟩), .pointer (some ⟨fb, 0, none⟩), .pointer (some ⟨bb, 0, none⟩), .pointer (some ⟨rb, 0, none⟩), .pointer (some ⟨sb, 0, none⟩)], x12], []⟩) a2 rfl (w.at d)
  refine (stepG_spawn (P := Tryz.prog) (main := true) (b := base 171) (rest := []) (k := [.code (.seq pP3 .ret)]) (cs := frU st T :: cs) (f := .func 230) a1 (wanted_none a4 _) kindP hrg.1 rfl).trans ?_
  rw [a3]
  unfold listed
  rw [hrg.2, seen_none]
  rfl
 ·refine tail_U (f := f) (off := off) (len := len) (w0 := w0) (s := sU s len cap off f 0) ge so (PlanM.closed 0) x0 x1 x2 x3 _ _ _ _ x8 x10 _ x12 hT (fun T' hT' => ?_) O0 w ⟨MU0, co⟩
  exact receiver_U ge hbt W0.ok hcap W0.byte h0 hn1 (fun O w' T' hi ht => by
   obtain ⟨tm, hs⟩ := hi.stop
   obtain ⟨t, h1⟩ := hi.row
   exact hEnd w' T' tm hi.kept h1.sp hs ht) n 0 T' (by omega) hT'
end
end
section
open Go Go.Conc
open Go.ConcN (sumTo sumTo_upd upd_ne upd_same le_sumTo sumTo_congr)
def edgesBack (ops : Array Oper) : Bool := (List.range ops.size).all fun i => match ops[i]? with | some o => o.after.all (fun e => !Region.binds .any e || decide (e.on < i)) | none => true
theorem edges_of {ops : Array Oper} (h : edgesBack ops = true) {i : Nat} {o : Oper} (ho : ops[i]? = some o) : ∀ e ∈ o.after, Region.binds .any e = true -> e.on < i := by
 intro e he hb
 unfold edgesBack at h
 rw [List.all_eq_true] at h
 have hi := (Array.getElem?_eq_some_iff.1 ho).1
 have := h i (by simpa using hi)
 rw [ho] at this
 simp only [Array.all_eq_true_iff_forall_mem] at this
 have := this e he
 rw [hb] at this
 simpa using this
def left (n : Nat) (listed : Array Bool) : Nat := sumTo n fun i => if listed.getD i true = false then 1 else 0
theorem left_set {n i : Nat} {listed : Array Bool} (hs : listed.size = n) (hi : i < n) (h : listed[i]? = some false) : left n (listed.setIfInBounds i true) + 1 = left n listed := by
 have h1 := sumTo_upd (fun a => listed.getD a true) true (fun b => if b = false then 1 else 0) (i := i) (j := n) hi
 have h2 : left n (listed.setIfInBounds i true) = sumTo n (fun a => if Go.ConcN.upd (fun a => listed.getD a true) i true a = false then 1 else 0) := by
  unfold left
  refine sumTo_congr fun a ha => ?_
  have : (listed.setIfInBounds i true).getD a true = Go.ConcN.upd (fun a => listed.getD a true) i true a := by
   rw [Array.getD_eq_getD_getElem?]
   by_cases hai : i = a
   ·subst hai
    rw [Array.getElem?_setIfInBounds_self_of_lt (by omega), upd_same]
    rfl
   ·rw [Array.getElem?_setIfInBounds_ne hai, upd_ne _ _ (Ne.symm hai), Array.getD_eq_getD_getElem?]
  rw [this]
 have h3 : listed.getD i true = false := by rw [Array.getD_eq_getD_getElem?, h]; rfl
 simp only [h3] at h1
 rw [h2]
 unfold left
 simpa using h1
theorem ready_nil_all {ops : Array Oper} (hE : edgesBack ops = true) {listed : Array Bool} (hs : listed.size = ops.size) (h : Region.ready .any ops listed = []) : ∀ i, i < ops.size -> listed[i]? = some true := by
 intro i
 induction i using Nat.strongRecOn with
 | _ i ih =>
  intro hi
  have hls : i < listed.size := by omega
  rw [Array.getElem?_eq_getElem hls]
  cases hb : listed[i] with
  | true => rfl
  | false =>
   exfalso
   unfold Region.ready at h
   rw [List.filter_eq_nil_iff] at h
   refine h i (by simpa using hi) ?_
   have h1 : listed.getD i true = false := by rw [Array.getD_eq_getD_getElem?, Array.getElem?_eq_getElem hls, hb]; rfl
   have ho : ops[i]? = some ops[i] := Array.getElem?_eq_getElem hi
   rw [h1, ho]
   simp only [Bool.not_false, Option.map_some, Option.getD_some, Bool.true_and]
   rw [Array.all_eq_true_iff_forall_mem]
   intro e he
   by_cases hbi : Region.binds .any e = true
   ·have hlt := edges_of hE ho e he hbi
    have := ih e.on hlt (by omega)
    rw [Array.getD_eq_getD_getElem?, this]
    simp
   ·simp [hbi]
theorem mem_readyW {ops : Array Oper} {listed : Array Bool} {i : Nat} (h : i ∈ Region.ready .any ops listed) : i < ops.size /\ listed.getD i true = false /\ ∀ o, ops[i]? = some o -> ∀ e ∈ o.after, Region.binds .any e = true -> listed.getD e.on false = true := by
 unfold Region.ready at h
 rw [List.mem_filter] at h
 obtain ⟨h1, h2⟩ := h
 have hi : i < ops.size := by simpa using h1
 rw [Bool.and_eq_true] at h2
 obtain ⟨h2, h3⟩ := h2
 refine ⟨hi, by simpa using h2, fun o ho e he hb => ?_⟩
 rw [ho] at h3
 simp only [Option.map_some, Option.getD_some, Array.all_eq_true_iff_forall_mem] at h3
 have := h3 e he
 rw [hb] at this
 simpa using this
section
variable {P : Program} {Post : Value -> World -> Prop}
theorem region_runs {ops : Array Oper} {id : Nat} {b : Frame} {k : List Item} {cs : List Frame} {T : Array Value} {ds : List Deferred} {w : World} (hm : P.follows .mixedOrders = true) (hE : edgesBack ops = true) (Inv : Array Bool -> Array Value -> World -> Prop) (h0 : Inv (Array.replicate ops.size false) T w)
  (hstep : ∀ (listed : Array Bool) (T : Array Value) (w : World) (i : Nat) (o : Oper) (rest : List Nat), listed.size = ops.size -> ops[i]? = some o -> (∀ e ∈ o.after, Region.binds .any e = true -> listed[e.on]? = some true) -> listed[i]? = some false -> Inv listed T w -> ((∀ j, j < ops.size -> j ≠ i -> listed[j]? = some true) -> rest = []) ->
   (∀ T' w', Inv (listed.setIfInBounds i true) T' w' -> RunsOn P Post (G (b.at ⟨T', ds⟩ (.inRegion ops rest :: k)) cs) w') -> RunsOn P Post (G (b.at ⟨T, ds⟩ (.inRegion ops (i :: rest) :: k)) cs) w)
  (hend : ∀ listed T w, (∀ i, i < ops.size -> listed[i]? = some true) -> Inv listed T w -> RunsOn P Post (G (b.at ⟨T, ds⟩ k) cs) w) :
  RunsOn P Post (G (b.at ⟨T, ds⟩ (.code (.region id ops true) :: k)) cs) w := by
 have key : ∀ (fuel t : Nat) (listed : Array Bool) (T : Array Value) (w : World), listed.size = ops.size -> left ops.size listed <= fuel -> Inv listed T w -> RunsOn P Post (G (b.at ⟨T, ds⟩ (.inRegion ops (Region.linearise.go .any ops fuel t listed []) :: k)) cs) w := by
  intro fuel
  induction fuel with
  | zero =>
   intro t listed T w hs hl hI
   simp only [Region.linearise.go, List.reverse_nil]
   refine run_ctl (fun w => stepG_region_end) (hend listed T w (fun i hi => ?_) hI)
   have h1 : (if listed.getD i true = false then 1 else 0) <= left ops.size listed := le_sumTo (f := fun i => if listed.getD i true = false then 1 else 0) hi
   have hls : i < listed.size := by omega
   rw [Array.getElem?_eq_getElem hls]
   cases hb : listed[i] with
   | true => rfl
   | false =>
    have h3 : listed.getD i true = false := by rw [Array.getD_eq_getD_getElem?, Array.getElem?_eq_getElem hls, hb]; rfl
    rw [if_pos h3] at h1
    omega
  | succ fuel ih =>
   intro t listed T w hs hl hI
   simp only [Region.linearise.go]
   change RunsOn P Post (G (b.at ⟨T, ds⟩ (.inRegion ops (match (Region.ready .any ops listed)[t % (Region.ready .any ops listed).length]? with
    | some i => Region.linearise.go .any ops fuel (t / (Region.ready .any ops listed).length) (listed.setIfInBounds i true) [i]
    | none => [].reverse) :: k)) cs) w
   cases hi : (Region.ready .any ops listed)[t % (Region.ready .any ops listed).length]? with
   | none =>
    have hnil : Region.ready .any ops listed = [] := by
     cases hr : Region.ready .any ops listed with
     | nil => rfl
     | cons x xs =>
      rw [hr] at hi
      have hlt : t % (x :: xs).length < (x :: xs).length := Nat.mod_lt _ (by simp)
      simp at hi
      simp at hlt
      omega
    exact run_ctl (fun w => stepG_region_end) (hend listed T w (ready_nil_all hE hs hnil) hI)
   | some i =>
    simp only []
    rw [linearise_go_acc, List.reverse_singleton, List.singleton_append]
    obtain ⟨m1, m2, m3⟩ := mem_readyW (List.mem_of_getElem? hi)
    have ho : ops[i]? = some ops[i] := Array.getElem?_eq_getElem m1
    have hf : listed[i]? = some false := by
     have hls : i < listed.size := by omega
     rw [Array.getD_eq_getD_getElem?, Array.getElem?_eq_getElem hls] at m2
     rw [Array.getElem?_eq_getElem hls]
     exact congrArg some m2
    refine hstep listed T w i _ _ hs ho (fun e he hb => ?_) hf hI (fun hall => ?_) fun T' w' hI' => ih _ _ T' w' (by simpa using hs) (by have := left_set hs m1 hf; omega) hI'
    ·have := m3 _ ho e he hb
     rw [Array.getD_eq_getD_getElem?] at this
     cases hx : listed[e.on]? with
     | none => rw [hx] at this; cases this
     | some y => rw [hx] at this; exact congrArg some this
    ·have hnil : Region.ready .any ops (listed.setIfInBounds i true) = [] := by
      unfold Region.ready
      rw [List.filter_eq_nil_iff]
      intro j hj
      have hj2 : j < ops.size := by simpa using hj
      have hl : (listed.setIfInBounds i true).getD j true = true := by
       rw [Array.getD_eq_getD_getElem?]
       by_cases hij : i = j
       ·subst hij
        rw [Array.getElem?_setIfInBounds_self_of_lt (by omega)]
        rfl
       ·rw [Array.getElem?_setIfInBounds_ne hij, hall j hj2 (Ne.symm hij)]
        rfl
      rw [hl]
      simp
     generalize listed.setIfInBounds i true = L1 at hnil ⊢
     generalize t / (Region.ready .any ops listed).length = t1
     cases fuel with
     | zero => simp [Region.linearise.go]
     | succ fuel =>
      simp only [Region.linearise.go]
      change (match (Region.ready .any ops L1)[t1 % (Region.ready .any ops L1).length]? with
       | some i' => Region.linearise.go .any ops fuel (t1 / (Region.ready .any ops L1).length) (L1.setIfInBounds i' true) [i']
       | none => ([] : List Nat).reverse) = []
      rw [hnil]
      simp
 refine RunsOn.closed (P := P) (Post := Post) botB topB _ w rfl fun w1 R => ?_
 rw [rely_top R]
 refine ⟨_, _, _, stepG_region_draw, ⟨rfl, rfl, rfl, Nat.le_refl _, fun b _ hb => absurd trivial hb, fun e he => by simp at he⟩, ?_⟩
 simp only [Region.schedule, hm, Bool.true_or, if_true]
 have hl0 : left ops.size (Array.replicate ops.size false) <= ops.size := by
  unfold left
  have := Go.ConcN.sumTo_le (f := fun i => if (Array.replicate ops.size false).getD i true = false then 1 else 0) (c := 1) (j := ops.size) (fun i _ => by split <;> omega)
  omega
 exact RunsOn.at (key ops.size _ _ T w (by simp) hl0 h0) (w1.drawn + 1)
theorem run_load1 {b : Frame} {a : Act} {ops : Array Oper} {i : Nat} {rest : List Nat} {k : List Item} {cs : List Frame} {o : Oper} {w : World} (v : Value) (ad : Addr) (ho : ops[i]? = some o) (hw : Region.wanted o (yielded ops a.tmps) = true) (hk : b.kind ≠ .early) (hc : w.cell? ad = some v)
  (hr : ∀ w, w.cell? ad = some v -> (execOp a.eval o).run P w = .ok (.value v) w /\ (execOp a.eval o).events P w #[] = #[⟨.cell ad, false, false⟩])
  (h : RunsOn P Post (G (b.at (a.put o.dst v) (.inRegion ops rest :: k)) cs) w) : RunsOn P Post (G (b.at a (.inRegion ops (i :: rest) :: k)) cs) w :=
 run_step (fun d => by
  obtain ⟨h3, h4⟩ := hr (w.at d) hc
  refine ⟨_, stepG_value ho hw hk h3, ⟨rfl, rfl, rfl, Nat.le_refl _, fun _ _ _ => rfl, fun e he => ?_⟩⟩
  unfold listed at he
  rw [h4] at he
  have he2 := mem_seen he
  simp at he2
  subst he2
  exact .inr ⟨rfl, ad.block, .inl ⟨ad, rfl, rfl⟩, World.block_lt_of_cell? w ad hc, .inl (.inl trivial)⟩) h
end
end
section
open Go Go.Conc
def lnB : Builtin -> Bool
 | .append | .cap | .close | .copy | .delete | .len | .max | .min | .panic | .recover | .unsafeString | .unsafeSliceData => true
 | _ => false
def lnOp (r : Bool) : Op -> Bool
 | .call ⟨.builtin b, _, _⟩ => lnB b
 | .defer ⟨.builtin b, _, _⟩ => !r && lnB b
 | .defer _ => !r
 | .go ⟨.builtin b, _, _⟩ => lnB b
 | .ready _ | .waits _ | .mapEntry .. | .entryStore .. | .entry _ => false
 | _ => true
def lnC (r : Bool) : Code -> Bool
 | .region _ ops _ => ops.all (fun o => lnOp r o.op)
 | .seq a b => lnC r a && lnC r b
 | .cond _ a b => lnC r a && lnC r b
 | .block _ b | .loop b | .scope b => lnC r b
 | .rangeFunc _ _ a b => lnC true a && lnC true b
 | _ => true
def lnT : Target -> Bool
 | .builtin b _ _ _ => lnB b
 | .coroexit _ => false
 | _ => true
def lnD (d : Deferred) : Bool := lnT d.target
def lnO : Obj -> Prop
 | .loop l => lnC true l.assign = true /\ lnC true l.body = true /\ ∀ c, l.pending = some c -> lnC true c = true /\ lnC false c = true
 | .deferred (some ds) => ds.all lnD = true
 | _ => True
def bears : Obj -> Bool
 | .loop _ | .deferred _ => true
 | _ => false
def plainO : Obj -> Bool
 | .coro _ => false
 | _ => true
def lnM : Mark -> Bool
 | .noRoom | .extern _ => true
 | _ => false
def lnH : Halt -> Bool
 | .panic _ | .stuck _ => true
 | .unsupported _ => true
 | _ => false
inductive Tidy (P : Program) {α : Type} (R : α -> Prop) : Sem α -> Prop
 | pure {a : α} (h : R a) : Tidy P R (.pure a)
 | load {m : Mode} {a : Addr} {k : Value -> Sem α} (h : ∀ v, Tidy P R (k v)) : Tidy P R (.load m a k)
 | store {m : Mode} {a : Addr} {v : Value} {k : Sem α} (h : Tidy P R k) : Tidy P R (.store m a v k)
 | new {o : Obj} {k : Nat -> Sem α} (ho : lnO o) (hp : plainO o = true) (h : ∀ n, Tidy P R (k n)) : Tidy P R (.new o k)
 | shape {r : Nat} {k : Option (TypeId × Nat) -> Sem α} (h : ∀ x, Tidy P R (k x)) : Tidy P R (.shape r k)
 | freeze {a : Addr} {n : Nat} {k : Sem α} (h : Tidy P R k) : Tidy P R (.freeze a n k)
 | frozen {a : Addr} {k : Bool -> Sem α} (h : ∀ x, Tidy P R (k x)) : Tidy P R (.frozen a k)
 | getObj {r : Nat} {k : Obj -> Sem α} (hb : (∃ s, k (.coro none) = .halt (.stuck s)) \/ ((∀ x, k (.loop x) = k (.coro none)) /\ ∀ x, k (.deferred x) = k (.coro none))) (h : ∀ o, lnO o -> Tidy P R (k o)) : Tidy P R (.getObj r k)
 | setObj {r : Nat} {o : Obj} {k : Sem α} (ho : lnO o) (hp : plainO o = true) (h : Tidy P R k) : Tidy P R (.setObj r o k)
 | choose {q : Question} {k : Nat -> Sem α} (h : ∀ n, Tidy P R (k n)) : Tidy P R (.choose q k)
 | env {k : SysRet -> Sem α} (h : ∀ x, Tidy P R (k x)) : Tidy P R (.sys .env k)
 | program {k : Program -> Sem α} (h : Tidy P R (k P)) : Tidy P R (.program k)
 | mark {m : Mark} {k : Sem α} (hm : lnM m = true) (h : Tidy P R k) : Tidy P R (.mark m k)
 | halt {h : Halt} (hh : lnH h = true) : Tidy P R (.halt h)
theorem Tidy.mono {P : Program} {α : Type} {R R' : α -> Prop} {s : Sem α} (h : Tidy P R s) (hr : ∀ a, R a -> R' a) : Tidy P R' s := by
 induction h with
 | pure h => exact .pure (hr _ h)
 | load _ ih => exact .load ih
 | store _ ih => exact .store ih
 | new ho hp _ ih => exact .new ho hp ih
 | shape _ ih => exact .shape ih
 | freeze _ ih => exact .freeze ih
 | frozen _ ih => exact .frozen ih
 | getObj hb _ ih => exact .getObj hb ih
 | setObj ho hp _ ih => exact .setObj ho hp ih
 | choose _ ih => exact .choose ih
 | env _ ih => exact .env ih
 | program _ ih => exact .program ih
 | mark hm _ ih => exact .mark hm ih
 | halt hh => exact .halt hh
theorem Tidy.bind {P : Program} {α β : Type} {R : α -> Prop} {R' : β -> Prop} {s : Sem α} {f : α -> Sem β} (h : Tidy P R s) (hf : ∀ a, R a -> Tidy P R' (f a)) : Tidy P R' (s >>= f) := by
 show Tidy P R' (s.bind f)
 induction h with
 | pure h => exact hf _ h
 | load _ ih => exact .load ih
 | store _ ih => exact .store ih
 | new ho hp _ ih => exact .new ho hp ih
 | shape _ ih => exact .shape ih
 | freeze _ ih => exact .freeze ih
 | frozen _ ih => exact .frozen ih
 | getObj hb _ ih =>
  refine .getObj ?_ ih
  rcases hb with ⟨h, e⟩ | ⟨h1, h2⟩
  ·exact .inl ⟨h, by rw [e]; rfl⟩
  ·exact .inr ⟨fun x => by rw [h1 x], fun x => by rw [h2 x]⟩
 | setObj ho hp _ ih => exact .setObj ho hp ih
 | choose _ ih => exact .choose ih
 | env _ ih => exact .env ih
 | program _ ih => exact .program ih
 | mark hm _ ih => exact .mark hm ih
 | halt hh => exact .halt hh
structure Veil (w0 W w : World) : Prop where
 os : w.os = W.os
 output : w.output = W.output
 size : w.heap.size = W.heap.size
 same : ∀ b : Nat, W.heap[b]? ≠ some (Obj.coro none) -> w.heap[b]? = W.heap[b]?
 veil : ∀ b : Nat, W.heap[b]? = some (Obj.coro none) -> w.heap[b]? = w0.heap[b]? /\ ∃ o : Obj, w.heap[b]? = some o /\ (bears o = true \/ o = Obj.coro none)
def Fair (W : World) : Prop := ∀ (b : Nat) (o : Obj), W.heap[b]? = some o -> lnO o
def Tunes (W w : World) (hi : Nat) : Prop := ∀ i q, W.drawn + i < hi -> W.tape (W.drawn + i) q = w.tape (w.drawn + i) q
def resWorld {α : Type} : Result α -> World
 | .ok _ w => w
 | .halt _ w => w
def MildE (B : Nat) (e : Event) : Prop := EvL (fun _ => False) B e
theorem MildE.mono {B B' : Nat} (h : B <= B') {e : Event} (he : MildE B e) : MildE B' e := ⟨fun _ _ x => x.elim, he.2.1, he.2.2.1, MemAct.low_mono h he.2.2.2⟩
theorem mild_cell {a : Addr} {wr sy : Bool} {B : Nat} (h : a.block < B) : MildE B ⟨.cell a, wr, sy⟩ := by
 refine ⟨fun _ _ x => x.elim, by simp, by simp, ?_⟩
 show a.block < B
 exact h
theorem mild_obj {r : Nat} {wr sy : Bool} {B : Nat} (h : r < B) : MildE B ⟨.obj r, wr, sy⟩ := by
 refine ⟨fun _ _ x => x.elim, by simp, by simp, ?_⟩
 cases wr <;> cases sy <;> exact h
theorem mild_mark {m : Mark} {wr sy : Bool} {B : Nat} (h : lnM m = true) : MildE B ⟨.mark m, wr, sy⟩ := by
 refine ⟨fun _ _ x => x.elim, fun e => ?_, fun e => ?_, ?_⟩
 ·cases e; cases h
 ·cases e; cases h
 ·cases m <;> first | (cases h; done) | (cases wr <;> cases sy <;> exact trivial)
theorem Veil.obj {w0 W w : World} (V : Veil w0 W w) (b : Nat) : w.heap[b]? = W.heap[b]? \/ (W.heap[b]? = some (Obj.coro none) /\ ∃ o : Obj, w.heap[b]? = some o /\ bears o = true) := by
 by_cases h : W.heap[b]? = some (Obj.coro none)
 ·obtain ⟨_, o, h2, h3 | rfl⟩ := V.veil b h
  ·exact .inr ⟨h, o, h2, h3⟩
  ·exact .inl (h2.trans h.symm)
 ·exact .inl (V.same b h)
theorem Veil.cell {w0 W w : World} (V : Veil w0 W w) (a : Addr) : w.cell? a = W.cell? a := by
 unfold World.cell?
 rcases V.obj a.block with h | ⟨h1, o, h2, h3⟩
 ·rw [h]
 ·rw [h1, h2]
  cases o <;> first | rfl | cases h3
theorem Veil.shape {w0 W w : World} (V : Veil w0 W w) (r : Nat) : w.shape? r = W.shape? r := by
 unfold World.shape?
 rcases V.obj r with h | ⟨h1, o, h2, h3⟩
 ·rw [h]
 ·rw [h1, h2]
  cases o <;> first | rfl | cases h3
theorem Veil.frozen {w0 W w : World} (V : Veil w0 W w) (a : Addr) : w.frozen? a = W.frozen? a := by
 unfold World.frozen?
 rcases V.obj a.block with h | ⟨h1, o, h2, h3⟩
 ·rw [h]
 ·rw [h1, h2]
  cases o <;> first | rfl | cases h3
theorem Veil.seen {w0 W w : World} (V : Veil w0 W w) (P : Program) (at_ : Addr) (u : TypeId) (k : Addr) (m : Bool) : w.seen P at_ u k m = W.seen P at_ u k m := by
 unfold World.seen
 rcases V.obj at_.block with h | ⟨h1, o, h2, h3⟩
 ·rw [h]
 ·rw [h1, h2]
  cases o <;> first | rfl | cases h3
theorem Veil.viewLoad {w0 W w : World} (V : Veil w0 W w) (P : Program) (at_ : Addr) (u : TypeId) (k : Addr) (m : Bool) : w.viewLoad P at_ u k m = W.viewLoad P at_ u k m := by
 unfold World.viewLoad
 rw [V.seen]
theorem seen_low {W : World} {P : Program} {at_ : Addr} {u : TypeId} {k : Addr} {m : Bool} {x} (h : W.seen P at_ u k m = .ok x) : at_.block < W.heap.size := by
 rcases hb : W.heap[at_.block]? with _ | o
 ·exfalso
  unfold World.seen at h
  rw [hb] at h
  dsimp only at h
  repeat' (first | (cases h; done) | split at h)
 ·exact (Array.getElem?_eq_some_iff.1 hb).1
end
end Go.Proofs.YtdobjciaikofdaaGreatDoor
