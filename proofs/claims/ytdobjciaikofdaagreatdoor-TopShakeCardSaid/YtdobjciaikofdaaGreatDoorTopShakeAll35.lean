/- Part 35 of 39 of what the proof of this law needs. Put together by a program out of the texts: Hv CwE Bk Dg. -/
import Derived.Test.YtdobjciaikofdaaGreatDoorTopShakeAll34
import Derived.Test.YtdobjciaikofdaaGreatDoorTopShakeAll29
import Derived.Test.YtdobjciaikofdaaGreatDoorTopShakeAll30
namespace Go.Proofs.YtdobjciaikofdaaGreatDoor
section
open Go.RowKit Go.Shelf Bt
attribute [local go_sem] lt_s2 lt_s3 lt_s4 lt_s5 lt_s6
def wayF (n : Nat) : FuncId := [145, 148, 150, 152, 154, 157, 159, 162, 164, 166].getD n 0
def wayE : Nat -> Array MapEntry
 | 0 => #[]
 | n + 1 => (wayE n).push ⟨.int .i64 (n + 1 : Nat), .agg #[.func (.func (wayF n)) #[] #[]], n⟩
theorem ways_put (w : World) (es : Array MapEntry) (ck : Nat) (key : Int) (v : Value) (hf : Instr.findNow (.int .i64) (.int .i64 key) es.toList 0 = some none) : (Instr.mapUpdate 173 (.map (some w.heap.size)) (.int .i64 key) v).run Tryz.prog (w.alloc (.map es ck)) = .ok () (w.alloc (.map (es.push ⟨.int .i64 key, v, ck⟩) (ck + 1))) := by
 rw [run_mapUpdate_new (T := 173) Tryz.underlying173 Tryz.underlying3 (World.alloc_heap_new w _) hf]
 have e : (w.alloc (.map es ck)).putObj w.heap.size (.map (es.push ⟨.int .i64 key, v, ck⟩) (ck + 1)) = w.alloc (.map (es.push ⟨.int .i64 key, v, ck⟩) (ck + 1)) := by
  unfold World.putObj World.alloc
  dsimp only
  congr 1
  apply Array.ext_getElem?
  intro i
  rw [Array.getElem?_setIfInBounds, Array.getElem?_push, Array.getElem?_push]
  by_cases h : w.heap.size = i
  ·subst h
   simp
  ·rw [if_neg h]
   simp [Ne.symm h]
 rw [e]
set_option maxRecDepth 100000 in
theorem ways_w (w : World) : Calls Tryz.prog 99 #[] w fun e w' => e = .returned (.map (some w.heap.size)) /\ w.alloc (.map (wayE 10) 10) = w' := by
 have hm := @run_makeMap Tryz.prog
 have h0 := ways_put w #[] 0 1 (.agg #[.func (.func (wayF 0)) #[] #[]]) (by rfl)
 have h1 := ways_put w (wayE 1) 1 2 (.agg #[.func (.func (wayF 1)) #[] #[]]) (by rfl)
 have h2 := ways_put w (wayE 2) 2 3 (.agg #[.func (.func (wayF 2)) #[] #[]]) (by rfl)
 have h3 := ways_put w (wayE 3) 3 4 (.agg #[.func (.func (wayF 3)) #[] #[]]) (by rfl)
 have h4 := ways_put w (wayE 4) 4 5 (.agg #[.func (.func (wayF 4)) #[] #[]]) (by rfl)
 have h5 := ways_put w (wayE 5) 5 6 (.agg #[.func (.func (wayF 5)) #[] #[]]) (by rfl)
 have h6 := ways_put w (wayE 6) 6 7 (.agg #[.func (.func (wayF 6)) #[] #[]]) (by rfl)
 have h7 := ways_put w (wayE 7) 7 8 (.agg #[.func (.func (wayF 7)) #[] #[]]) (by rfl)
 have h8 := ways_put w (wayE 8) 8 9 (.agg #[.func (.func (wayF 8)) #[] #[]]) (by rfl)
 have h9 := ways_put w (wayE 9) 9 10 (.agg #[.func (.func (wayF 9)) #[] #[]]) (by rfl)
 change _ = Result.ok () (w.alloc (.map (wayE 1) 1)) at h0
 change _ = Result.ok () (w.alloc (.map (wayE 2) 2)) at h1
 change _ = Result.ok () (w.alloc (.map (wayE 3) 3)) at h2
 change _ = Result.ok () (w.alloc (.map (wayE 4) 4)) at h3
 change _ = Result.ok () (w.alloc (.map (wayE 5) 5)) at h4
 change _ = Result.ok () (w.alloc (.map (wayE 6) 6)) at h5
 change _ = Result.ok () (w.alloc (.map (wayE 7) 7)) at h6
 change _ = Result.ok () (w.alloc (.map (wayE 8) 8)) at h7
 change _ = Result.ok () (w.alloc (.map (wayE 9) 9)) at h8
 change _ = Result.ok () (w.alloc (.map (wayE 10) 10)) at h9
 simp only [wayF, List.getD_cons_succ, List.getD_cons_zero] at h0 h1 h2 h3 h4 h5 h6 h7 h8 h9
 go_enter Tryz.func99, Tryz.ntmps99
 go_wp2
 go_ret
 exact ⟨rfl, rfl⟩
set_option maxRecDepth 100000 in
set_option maxHeartbeats 4000000 in
theorem ways1_w (db mb : Nat) (hne : db ≠ mb) (w : World) (hd : Dk w db mb 0 #[] 0) (ht : Tabs w) :
  Calls Tryz.prog 145 #[.pointer (some ⟨db, 0, none⟩), .agg (callC 1 0 8 0 nilS nilS nilS)] w fun e w' => e = .returned (.string (decW 1)) /\ ∃ hb sb n1 n2, w.heap.size <= sb /\ sb < hb /\ Dk w' db mb 1 #[⟨.int .i64 1, .pointer (some ⟨hb, 0, none⟩), 0⟩] 1 /\ Hs w' hb 8 n1 n2 sb /\ Sp w' sb (freshS 8) /\ Chg w w' [db, mb] := by
 have B0 : Below w.heap.size w (w.alloc (.cells (callC 1 0 8 0 nilS nilS nilS) 108)) := bl_alloc (bl_refl w)
 have CN := Lib.hid (deskNew_w none none 0 0 8 (by decide) (by decide) db mb hne _ (hd.below B0) (ht.below B0))
 have CM := Lib.hid (fun W => numbered_w 1 (by decide) W)
 clear hd ht
 unfold callC callL nmV at CN
 unfold callC callL
 go_enter Tryz.func145, Tryz.ntmps145
 go_wp2_with (first | (go_at_call 147; (refine CN.out.mono ?_); rintro e w1 ⟨rfl, Q⟩) | (go_at_call 146; (refine (CM.out _).mono ?_); rintro e w2 ⟨rfl, rfl⟩))
 go_ret
 obtain ⟨hb, sb, n1, n2, q1, q2, q3, q4, q5, q6⟩ := Q
 exact ⟨rfl, hb, sb, n1, n2, by simp at q1; omega, q2, q3, q4, q5, (Chg.of_below (bl_alloc (bl_refl w)) _).trans q6⟩
set_option maxRecDepth 100000 in
set_option maxHeartbeats 4000000 in
theorem ways5_w (db mb ck : Nat) {hb sb : Nat} {s : Spg} (w : World) (hd : Dk w db mb 1 #[⟨.int .i64 1, .pointer (some ⟨hb, 0, none⟩), ck⟩] 1) (hh : HasS w hb 8 sb s) (ht : Tabs w) (hT : TabK w) (hf : ∀ j, j < 32 -> (readL s 32).getD j 0 < 256) :
  Calls Tryz.prog 154 #[.pointer (some ⟨db, 0, none⟩), .agg (callC 5 1 0 0 nilS nilS nilS)] w fun e w' => e = .returned (.string ⟨(hexL (fun j => (readL s 32).getD j 0) 32).toArray⟩) /\ Below w.heap.size w w' := by
 have B0 : Below w.heap.size w (w.alloc (.cells (callC 5 1 0 0 nilS nilS nilS) 108)) := bl_alloc (bl_refl w)
 have CS : Hid (Calls Tryz.prog 156 #[.pointer (some ⟨db, 0, none⟩), .int .i64 1, .slice none 0 0] (w.alloc (.cells (callC 5 1 0 0 nilS nilS nilS) 108)) fun e w' => ∃ v, e = .returned (.tuple #[v, .int .i64 0]) /\ owns w' (w.alloc (.cells (callC 5 1 0 0 nilS nilS nilS) 108)).heap.size 5 .u8 v 32 (fun j => (((readL s 32).getD j 0 : Nat) : Int)) /\ Below (w.alloc (.cells (callC 5 1 0 0 nilS nilS nilS) 108)).heap.size (w.alloc (.cells (callC 5 1 0 0 nilS nilS nilS) 108)) w') := Lib.hid (by
  refine (dsum_w (hb := hb) (a := 8) (sb := sb) (s := s) (p := none) (len := 0) (cap := 0) (f := fun _ => 0) db mb ck (by decide) (by decide) (by decide) _ (fun h => by omega) (hh.below B0) (ht.below B0) (hT.below (Nat.le_refl _) B0) (hd.below B0)).mono ?_
  rintro e w' ⟨v, rfl, h1, h2⟩
  have e8 : 0 + digC 8 = 32 := rfl
  rw [e8] at h1
  refine ⟨v, rfl, owns_ext (fun j hj => ?_) h1, h2⟩
  unfold sumF
  rw [if_neg (by omega), Nat.sub_zero]
  rfl)
 have CL := Lib.hid (fun (p : Option Addr) (cap : Nat) W hp => laden_w p 32 cap (by decide) (by decide) (fun j => (readL s 32).getD j 0) hf W hp)
 obtain ⟨hx, hhx⟩ : ∃ hx : ByteArray, Hid ((⟨(hexL (fun j => (readL s 32).getD j 0) 32).toArray⟩ : ByteArray) = hx) := ⟨_, Lib.hid rfl⟩
 simp only [hhx.out] at CL ⊢
 clear hd hh ht hT hf
 unfold callC callL nilS at CS
 unfold callC callL nilS
 go_enter Tryz.func154, Tryz.ntmps154
 go_wp2_with (first | (go_at_call 156; (refine CS.out.mono ?_); rintro e w1 ⟨v, rfl, O1, B1⟩; obtain ⟨av, cv, rfl, _, _, R1⟩ := owns_reads O1; have Q1 := Lib.hid (And.intro R1 (bl_call (bl_alloc (bl_refl w)) B1)); clear O1 B1 R1) | (go_at_call 155; (refine (CL.out _ _ _ Q1.out.1).mono ?_); rintro e w2 ⟨rfl, B2⟩))
 go_ret
 exact ⟨rfl, bl_call Q1.out.2 B2⟩
end
section
open Go Go.Conc Go.RowKit Go.Shelf Bt
attribute [local go_sem] lt_s2 lt_s3 lt_s4 lt_s5 lt_s6
attribute [local go_sem] hasRow_at hasRow_past run_storeRow Value.oneCell' setRow_at setRow_past run_store_func
attribute [local go_sem ↓] loadRow_is
set_option maxRecDepth 100000 in
set_option maxHeartbeats 8000000 in
theorem one_co {kind h alg n : Int} {b : Value} {i : Nat} {f : FuncId} {line : ByteArray} {db : Nat} {w : World} (hl : Instr.findNow (.int .i64) (.int .i64 kind) (wayE 10).toList 0 = some (some (i, .agg #[.func (.func f) #[] #[]])))
  {fn : Func} (hf : Tryz.prog.funcs[f]? = some fn) (hfb : fn.body.isSome = true) (hfn : (fn.name == "runtime.NumGoroutine") = false)
  (hP : ∀ W w1, Alone w1 W -> Kept w w1 -> Calls Tryz.prog 100 #[.agg (callC kind h alg n nilS nilS b)] W fun e w' => e = .returned (.tuple #[.string line, .int .i64 0]) /\ Below W.heap.size W w')
  (R : Value -> World -> Prop) (hW : ∀ w1, Kept w w1 -> CoCalls f #[.pointer (some ⟨db, 0, none⟩), .agg (callC kind h alg n nilS nilS b)] w1 R) :
  CoCalls 55 #[.pointer (some ⟨db, 0, none⟩), .agg (callC kind h alg n nilS nilS b)] w R := by
 refine CoCalls.body Tryz.func55 rfl rfl ?_
 simp only [Tryz.ntmps55, List.size_toArray, List.length_cons, List.length_nil, Nat.reduceAdd, Nat.reduceSub, Array.replicate_succ, Array.replicate_zero, List.push_toArray, List.append_toArray, List.nil_append, List.cons_append]
 refine wpC_go (by kernel_rfl) (by kernel_rfl) fun W hW0 K hK => ?_
 simp only [callC, callL]
 go_wp2
 rw [hW0.size]
 refine hK.out _ _ fun w1 S1 => ?_
 have k1 := S1.kept (bl_alloc (bl_refl W))
 have hc1 : Cl w1 w.heap.size (callC kind h alg n nilS nilS b) := S1.cells (by rw [<- hW0.size]; exact heap_at _ _ _ rfl)
 refine wpC_go (by kernel_rfl) (by kernel_rfl) fun W hW1 K hK => ?_
 have hcW : Cl W w.heap.size (callC kind h alg n nilS nilS b) := hW1.obj _ _ hc1 rfl
 have c0 : W.cell? ⟨w.heap.size, 0, none⟩ = some (.int .i64 kind) := (hcW.cell 0).1
 have CW := Lib.hid ways_w
 have HL : ∀ (X : World) b, X.heap[b]? = some (.map (wayE 10) 10) -> (Instr.lookup 173 (.map (some b)) (.int .i64 kind) true).run Tryz.prog X = .ok (.tuple #[.agg #[.func (.func f) #[] #[]], .bool true]) X := fun X b hb => run_lookup_hit (T := 173) (ok := true) Tryz.underlying173 Tryz.underlying3 hb hl
 have m1 := HL (W.alloc (.map (wayE 10) 10)).drew W.heap.size (heap_at W _ _ rfl)
 have m2 := HL ((W.alloc (.map (wayE 10) 10)).alloc (.cells #[.nilFunc] 171)).drew W.heap.size (heap_past (W.alloc (.map (wayE 10) 10)) _ _ _ (by simp) (heap_at W _ _ rfl))
 have m3 := HL ((W.alloc (.cells #[.nilFunc] 171)).alloc (.map (wayE 10) 10)).drew (W.heap.size + 1) (heap_at (W.alloc (.cells #[.nilFunc] 171)) _ _ (by simp))
 have hlc := cell_lt c0
 refine wp_meet2 (fun mb sb => ⟨#[.pointer (some ⟨db, 0, none⟩), .agg (callC kind h alg n nilS nilS b), undef, .pointer (some ⟨w.heap.size, 0, none⟩), .string ⟨#[]⟩, .pointer (some ⟨sb, 0, none⟩), .bool true, undef, undef, .tuple #[.agg #[.func (.func f) #[] #[]], .bool true], .map (some mb), .pointer (some ⟨w.heap.size, 0, none⟩), .int .i64 kind, .tuple #[.agg #[.func (.func f) #[] #[]], .bool true], .agg #[.func (.func f) #[] #[]], .bool true, undef, undef, undef, undef, undef, undef, undef, undef, undef, undef, undef, undef, undef, undef, undef, undef, undef, undef, undef, undef, undef, undef], []⟩)
  (fun mb sb W' => Below W.heap.size W W' /\ W'.heap[sb]? = some (.cells #[.func (.func f) #[] #[]] 171 (0, 0))) (fun K' hK' => ?_) ?_
 ·clear hP hW hK hl hf HL
  go_region_with (go_at_call 99; (with_reducible refine (CW.out _).mono ?_); rintro e w' ⟨rfl, rfl⟩)
  all_goals first
   | exact hK'.out W.heap.size (W.heap.size + 1) _ ⟨bl_drew (bl_alloc (bl_alloc (bl_refl W))), heap_at (W.alloc (.map (wayE 10) 10)) _ _ (by simp)⟩
   | exact hK'.out (W.heap.size + 1) W.heap.size _ ⟨bl_drew (bl_alloc (bl_alloc (bl_refl W))), heap_past (W.alloc (.cells #[.func (.func f) #[] #[]] 171)) _ _ _ (by simp) (heap_at W _ _ rfl)⟩
 rintro mb sb W' ⟨hB, hsb⟩
 refine hK.out _ _ fun w2 S2 => ?_
 have k2 := S2.kept hB
 have hc2 : Cl w2 w.heap.size (callC kind h alg n nilS nilS b) := hc1.below k2.bel
 have hs2 := S2.cells hsb
 have k12 := k1.trans k2
 refine wpC_go (by kernel_rfl) (by kernel_rfl) fun W hW2 K hK => ?_
 have CP := Lib.hid (hP W w2 hW2 k12)
 have L1 := Cl.load (show Cl W w.heap.size (callC kind h alg n nilS nilS b) from hW2.obj _ _ hc2 rfl)
 unfold callC callL nilS at CP L1
 unfold callC callL nilS
 clear hP
 go_wp2_with (go_at_call 100; (with_reducible refine CP.out.mono ?_); rintro e w' ⟨rfl, B1⟩)
 refine hK.out _ _ fun w3 S3 => ?_
 have k3 := S3.kept B1
 have hc3 : Cl w3 w.heap.size (callC kind h alg n nilS nilS b) := hc2.below k3.bel
 have hs3 := (k3.keep _ (Array.getElem?_eq_some_iff.1 hs2).1).trans hs2
 refine wpC_seq (by kernel_rfl) (wpC_region (wpO_still 0 4 (by decide) (by kernel_rfl) fun W hW3 K hK => ?_))
 have L2 := Cl.load (show Cl W w.heap.size (callC kind h alg n nilS nilS b) from hW3.obj _ _ hc3 rfl)
 have d5 : W.cell? ⟨sb, 0, none⟩ = some (.func (.func f) #[] #[]) := cell_of_row W sb 0 _ _ _ (hW3.obj _ _ hs3 rfl)
 unfold callC callL nilS at L2
 simp only [List.take_succ_cons, List.take_zero, List.drop_zero]
 go_wp2
 refine hK.out _ (wpO_call (f := f) (args := #[.pointer (some ⟨db, 0, none⟩), .agg (callC kind h alg n nilS nilS b)]) rfl rfl (fun w => ⟨?_, ?_⟩) ?_)
 ·go_simp
  exact (callFunc_run hf hfb hfn _ _).1
 ·unfold execOp
  simp [go_sem]
  exact (callFunc_run hf hfb hfn _ _).2
 refine (hW w3 (k12.trans k3)).mono ?_
 intro v w4 hR
 refine wpO_done 5 (by decide) (by kernel_rfl) fun W hW K hK => ?_
 simp only [List.drop_succ_cons, List.drop_zero]
 go_wp2
 refine hK.out _ _ fun w5 S5 => ?_
 rw [S5.same]
 refine .inl ⟨by trivial, wpC_at (wpC_ret ⟨rfl, v, fun W _ => ?_, hR⟩)⟩
 rw [results_tmp rfl]
 rfl
end
section
open Go.RowKit Go.Shelf Bt
def BdV (B b : Nat) (v : Value) (bs : List Value) (w : World) : Prop := B <= b /\ (∃ p, (p = .pointer none \/ p = .pointer (some ⟨b, 0, none⟩)) /\ w.heap[b]? = some (.cells #[p, v] 106 (0, 0))) /\ w.ownsRow B 5 1 v bs.length bs /\ v.ownBlock ≠ some b
theorem BdV.bd {B b : Nat} {v : Value} {bs : List Value} {w : World} (h : BdV B b v bs w) : Bd B b bs w := by
 obtain ⟨h1, ⟨p, rfl | rfl, h2⟩, h3, h4⟩ := h
 ·exact .inl ⟨h1, v, h2, h3, h4⟩
 ·exact .inr ⟨h1, v, h2, h3, h4⟩
theorem BdV.of {B b : Nat} {bs : List Value} {w : World} (h : Bd B b bs w) : ∃ v, BdV B b v bs w := by
 rcases h with ⟨h1, v, h2, h3, h4⟩ | ⟨h1, v, h2, h3, h4⟩
 ·exact ⟨v, h1, ⟨_, .inl rfl, h2⟩, h3, h4⟩
 ·exact ⟨v, h1, ⟨_, .inr rfl, h2⟩, h3, h4⟩
theorem BdV.keep {B b : Nat} {v : Value} {bs : List Value} {w w1 : World} (h : BdV B b v bs w) (h1 : w1.heap[b]? = w.heap[b]?) (h2 : ∀ g, v.ownBlock = some g -> w1.heap[g]? = w.heap[g]?) : BdV B b v bs w1 := by
 obtain ⟨a1, ⟨p, a2, a3⟩, a4, a5⟩ := h
 refine ⟨a1, ⟨p, a2, h1.trans a3⟩, ⟨a4.1, ?_⟩, a5⟩
 rcases a4.2 with h0 | ⟨g, cap, cur, rfl, hb, hg, r⟩
 ·exact .inl h0
 ·exact .inr ⟨g, cap, cur, rfl, hb, (h2 g rfl).trans hg, r⟩
theorem BdV.row {B b : Nat} {v : Value} {bs : List Value} {w : World} (h : BdV B b v bs w) {g : Nat} (e : v.ownBlock = some g) : B <= g /\ ∃ cur, w.heap[g]? = some (.cells cur 5 (0, 0)) /\ (0 < bs.length -> cur[0]? = bs[0]?) := by
 rcases h.2.2.1.2 with ⟨rfl, _⟩ | ⟨g', cap, cur, rfl, hb, hg, hn, hc, hs, ht⟩
 ·cases e
 ·have e2 : some g' = some g := e
  cases e2
  refine ⟨hb, cur, hg, fun hl => ?_⟩
  rw [<- ht, List.getElem?_take, if_pos (by omega)]
  simp
set_option maxHeartbeats 2000000 in
set_option maxRecDepth 100000 in
theorem writeString_v (B b : Nat) (v : Value) (bs : List Value) (s : ByteArray) (w : World) (h : BdV B b v bs w) (hlen : bs.length + s.size <= 140737488355328) (hBw : B <= w.heap.size) :
  Calls Tryz.prog 54 #[.pointer (some ⟨b, 0, none⟩), .string s] w fun e w' => e = .returned (.tuple #[.int .i64 s.size, .nilIface]) /\ (∃ v', BdV B b v' (bs ++ Lib.strCells s) w') /\ Below B w w' /\ ∀ k, k < w.heap.size -> k ≠ b -> v.ownBlock ≠ some k -> w'.heap[k]? = w.heap[k]? := by
 obtain ⟨i0, hi, hz0, hz1, hz2⟩ := info_parts infoBy
 have CC : Calls Tryz.prog 98 #[.pointer (some ⟨b, 0, none⟩)] w fun e w' => e = .returned (.tuple #[]) /\ w'.heap[b]? = some (.cells #[.pointer (some ⟨b, 0, none⟩), v] 106 (0, 0)) /\ w'.ownsRow B 5 1 v bs.length bs /\ Below B w w' /\ (∀ k, k ≠ b -> w'.heap[k]? = w.heap[k]?) /\ w'.heap.size = w.heap.size := by
  obtain ⟨h1, ⟨p, rfl | rfl, h2⟩, h3, h4⟩ := h
  ·have hA : Lib.BuilderAt 106 5 B b (.pointer none) bs w := ⟨h1, v, h2, h3, h4⟩
   refine (ccheck_fresh b w hA.cell0 hA.shape hA.frozen0).mono ?_
   rintro e w' ⟨rfl, rfl⟩
   refine ⟨rfl, ?_, ?_, (Below.refl B w).setCell (p := ⟨b, 0, none⟩) h1 _, fun k hk => Below.heap_setCell w _ _ k hk, by simp⟩
   ·unfold World.setCell
    dsimp only
    rw [Array.getElem?_modify, if_pos rfl, h2]
    rfl
   ·exact World.ownsRow.kept (row := some b) h3 (grownBy_setCell' w b _) (.inr h4)
  ·have hA : Lib.BuilderAt 106 5 B b (.pointer (some ⟨b, 0, none⟩)) bs w := ⟨h1, v, h2, h3, h4⟩
   refine (ccheck_used b w hA.cell0).mono ?_
   rintro e w' ⟨rfl, rfl⟩
   exact ⟨rfl, h2, h3, Below.refl B _, fun k _ => rfl, rfl⟩
 have hB := h.1
 have hne := h.2.2.2
 clear h
 go_enter Tryz.func54, Tryz.ntmps54
 go_wp2_with (go_at_call 98; fail)
 refine CC.mono ?_
 rintro e w1 ⟨rfl, hbk, hown, hb1, hk1, hs1⟩
 clear CC
 have c0 : w1.cell? ⟨b, 0, none⟩ = some (.pointer (some ⟨b, 0, none⟩)) := by rw [Lib.cell_of_heap hbk]; rfl
 have c1 : w1.cell? ⟨b, 1, none⟩ = some v := by rw [Lib.cell_of_heap hbk]; rfl
 go_wp2_with (at_builtin; refine Lib.wpList_append_own_string _ rfl _ _ 22 9 rfl B 5 i0 Tryz.underlying22 Tryz.underlying9 hi hz0 hz1 hz2 _ _ _ rfl hown s rfl ?c3 ?c4 ?c5 ?_)
 case c3 => unfold maxLen; omega
 case c4 => omega
 case c5 => have := hb1.size; omega
 intro v' w2 hown' hgrow _
 have hlt : b < w1.heap.size := (Array.getElem?_eq_some_iff.1 hbk).1
 have hb2 : w2.heap[b]? = some (.cells #[.pointer (some ⟨b, 0, none⟩), v] 106 (0, 0)) := by
  rw [hgrow.block b hlt (fun e => hne e.symm)]
  exact hbk
 have d0 : w2.cell? ⟨b, 0, none⟩ = some (.pointer (some ⟨b, 0, none⟩)) := by rw [Lib.cell_of_heap hb2]; rfl
 have d1 : w2.cell? ⟨b, 1, none⟩ = some v := by rw [Lib.cell_of_heap hb2]; rfl
 have f1 : w2.frozen? ⟨b, 1, none⟩ = false := Lib.frozen_of_heap hb2 1
 obtain ⟨ao, n', cap, rfl⟩ : ∃ ao n' cap, v' = .slice ao n' cap := by
  rcases hown'.2 with ⟨hv, _⟩ | ⟨g, cap, cur, hv, _⟩
  ·exact ⟨_, _, _, hv⟩
  ·exact ⟨_, _, _, hv⟩
 go_wp2
 go_ret2
 refine ⟨rfl, ?_, ?_, ?_⟩
 ·exact BdV.of (.inr (Lib.BuilderAt.put (T := 106) (e := 5) hB hb2 (bs' := bs ++ Lib.strCells s) (by simpa [Lib.strCells_length] using hown') (by decide)))
 ·exact (hb1.grown hgrow (by have := hb1.size; omega) (fun k hk => (hown.lt k hk).1)).setCell (p := ⟨b, 1, none⟩) hB _
 ·intro k hk hkb hkv
  rw [Below.heap_setCell _ _ _ _ (fun e => hkb (by rw [e])), hgrow.block k (by omega) (fun e => hkv e.symm)]
  exact hk1 k hkb
end
section
open Bt Go.RowKit
def rl (x k : Nat) : Nat := (x >>> k ||| x <<< (64 - k)) % 18446744073709551616
theorem rl_is (x k : Nat) (hk : k < 64) (hx : x < 18446744073709551616) : rotr 64 x k = rl x k := by
 apply Nat.eq_of_testBit_eq
 intro j
 rw [rotr_testBit]
 unfold rl
 rw [show (18446744073709551616 : Nat) = 2 ^ 64 from rfl, Nat.testBit_mod_two_pow, Nat.testBit_or, Nat.testBit_shiftRight, Nat.testBit_shiftLeft]
 by_cases hj : j < 64
 ·simp only [hj, decide_true, Bool.true_and]
  by_cases h : j + k < 64
  ·have h2 : ¬ (64 - k <= j) := by omega
   rw [Nat.mod_eq_of_lt h, Nat.add_comm k j]
   simp [h2]
  ·have h2 : 64 - k <= j := by omega
   have e : (j + k) % 64 = j + k - 64 := by omega
   have e3 : j - (64 - k) = j + k - 64 := by omega
   have hb : x.testBit (k + j) = false := Nat.testBit_lt_two_pow (Nat.lt_of_lt_of_le hx (by rw [show (18446744073709551616 : Nat) = 2 ^ 64 from rfl]; exact Nat.pow_le_pow_right (by omega) (by omega)))
   rw [e, hb, e3]
   simp [h2]
 ·simp [hj]
theorem getD_lt_of {l : List Nat} {m : Nat} (h : ∀ x ∈ l, x < m) (hm : 0 < m) (j : Nat) : l.getD j 0 < m := by
 rw [List.getD_eq_getElem?_getD]
 rcases hx : l[j]? with _ | x
 ·exact hm
 ·exact h x (List.mem_of_getElem? hx)
def tabL (n : Nat) (f : Nat -> Nat) : List Nat := (List.range n).map f
theorem tabL_at {n : Nat} {f : Nat -> Nat} {j : Nat} (h : j < n) : (tabL n f).getD j 0 = f j := by simp [tabL, List.getD, h]
def ipos (j : Nat) : Nat := [0, 6, 12, 18, 24, 3, 9, 10, 16, 22, 1, 7, 13, 19, 20, 4, 5, 11, 17, 23, 2, 8, 14, 15, 21].getD j 0
def colL (g : Nat -> Nat) : List Nat := tabL 5 (fun j => ((((0 ^^^ g j) ^^^ g (j + 5)) ^^^ g (j + 10)) ^^^ g (j + 15)) ^^^ g (j + 20))
def theL (g : Nat -> Nat) (c : List Nat) : List Nat := tabL 25 (fun i => g i ^^^ (c.getD ((i + 4) % 5) 0 ^^^ rl (c.getD ((i + 1) % 5) 0) 63))
def rhoL (t : List Nat) : List Nat := tabL 25 (fun j => rl (t.getD (ipos j) 0) ((-(offC (ipos j) : Int)) % 64).toNat)
def chiL (b : List Nat) (r : Nat) : List Nat := tabL 25 (fun i => if i = 0 then (b.getD 0 0 ^^^ ((18446744073709551615 ^^^ b.getD 1 0) &&& b.getD 2 0)) ^^^ rcC r else b.getD (i / 5 * 5 + i % 5) 0 ^^^ ((18446744073709551615 ^^^ b.getD (i / 5 * 5 + (i % 5 + 1) % 5) 0) &&& b.getD (i / 5 * 5 + (i % 5 + 2) % 5) 0))
def rouL (l : List Nat) (r : Nat) : List Nat := chiL (rhoL (theL (fun j => l.getD j 0) (colL (fun j => l.getD j 0)))) r
theorem par_at (a : Nat -> Nat) (j : Nat) (h : j < 5) : parK a 25 j = ((((0 ^^^ a j) ^^^ a (j + 5)) ^^^ a (j + 10)) ^^^ a (j + 15)) ^^^ a (j + 20) := by
 obtain rfl | rfl | rfl | rfl | rfl : j = 0 \/ j = 1 \/ j = 2 \/ j = 3 \/ j = 4 := by omega
 all_goals rfl
theorem rho_at (a : Nat -> Nat) (j : Nat) (h : j < 25) : rhoK a 25 j = rotr 64 (a (ipos j)) ((-(offC (ipos j) : Int)) % 64).toNat /\ ipos j < 25 := by
 obtain rfl | rfl | rfl | rfl | rfl | rfl | rfl | rfl | rfl | rfl | rfl | rfl | rfl | rfl | rfl | rfl | rfl | rfl | rfl | rfl | rfl | rfl | rfl | rfl | rfl : j = 0 \/ j = 1 \/ j = 2 \/ j = 3 \/ j = 4 \/ j = 5 \/ j = 6 \/ j = 7 \/ j = 8 \/ j = 9 \/ j = 10 \/ j = 11 \/ j = 12 \/ j = 13 \/ j = 14 \/ j = 15 \/ j = 16 \/ j = 17 \/ j = 18 \/ j = 19 \/ j = 20 \/ j = 21 \/ j = 22 \/ j = 23 \/ j = 24 := by omega
 all_goals exact ⟨rfl, by decide⟩
theorem rou_at (a : Nat -> Nat) (l : List Nat) (ha : ∀ j, j < 25 -> a j < 18446744073709551616) (h : ∀ j, j < 25 -> a j = l.getD j 0) (r : Nat) : ∀ j, j < 25 -> roundP a r j = (rouL l r).getD j 0 := by
 have hc : ∀ j, j < 5 -> parK a 25 j = (colL (fun j => l.getD j 0)).getD j 0 := fun j hj => by
  rw [par_at a j hj, colL, tabL_at hj, h j (by omega), h (j + 5) (by omega), h (j + 10) (by omega), h (j + 15) (by omega), h (j + 20) (by omega)]
 have ht : ∀ i, i < 25 -> thetaF a i = (theL (fun j => l.getD j 0) (colL (fun j => l.getD j 0))).getD i 0 := fun i hi => by
  rw [theL, tabL_at hi, <- hc _ (by omega), <- hc _ (by omega), <- rl_is _ _ (by omega) (parK_lt a ha 25 (Nat.le_refl _) _)]
  unfold thetaF
  rw [h i hi]
 have hr : ∀ j, j < 25 -> rhoK (thetaF a) 25 j = (rhoL (theL (fun j => l.getD j 0) (colL (fun j => l.getD j 0)))).getD j 0 := fun j hj => by
  obtain ⟨e, hp⟩ := rho_at (thetaF a) j hj
  rw [e, rhoL, tabL_at hj, <- ht _ hp, rl_is _ _ (by omega) (thetaF_lt a ha _ hp)]
 intro i hi
 unfold rouL
 rw [chiL, tabL_at hi]
 unfold roundP chiR chiF
 dsimp only
 by_cases h0 : i = 0
 ·subst h0
  rw [if_pos rfl, if_pos rfl, hr _ (by omega), hr _ (by omega), hr _ (by omega)]
 ·rw [if_neg h0, if_neg h0, hr _ (by omega), hr _ (by omega), hr _ (by omega)]
def st0 : List Nat := [107176545, 0, 0, 0, 0, 0, 0, 0, 0, 0, 0, 0, 0, 0, 0, 0, 9223372036854775808, 0, 0, 0, 0, 0, 0, 0, 0]
def st1 : List Nat := [4398153687649, 3901823719349157990, 7910007537664, 105079392, 3901827231310184454, 8, 7803889796390060228, 1152921504606846984, 7803665030884360396, 1153146270112546816, 214353090, 54874391072, 0, 54929000130, 262176, 28770025758884864, 68719493120, 109748782080, 28769984729595904, 68719476736, 4855550000886710278, 2199023255552, 7161393010529110402, 2305845208236949504, 428706180]
def st2 : List Nat := [13164907564018953924, 15220720138869799226, 6796648950491855635, 13897411166903510394, 16832664252105630616, 2928540334549941387, 14536708437020252846, 9768480366634877815, 9634180033676275240, 6138460102500379231, 6307606630649706942, 10312096968598599166, 17752487350312377780, 571534173918528880, 181063452560966213, 2334108221589840282, 7206561465567886279, 10267341173717622807, 5989259681429667871, 15789531484844203227, 13555749409086941735, 12837780068572596047, 626768628804868831, 10636593183362389704, 10818337138290255790]
def st3 : List Nat := [1223668076072340059, 12503466525995712217, 4625682386812576357, 7866570216263420989, 15782958561539186682, 17933946954239837693, 2942200326264971158, 6254756737725015155, 9420490113044623841, 14548025417246030392, 647367130878504648, 6839902207899503360, 11668422972057723467, 9110610616631982321, 370940760735035564, 8293752090814219732, 6016980152675626675, 5376785321187771945, 9386654264275592499, 13770999519888393737, 10840279972302668371, 17214205813552940322, 7980155411371032373, 12090276838341320590, 13564390616415625570]
def st4 : List Nat := [6584531343287143406, 3186235930877644659, 569624463775579096, 9253186710340300560, 2113793481851273414, 11582795374401450131, 16588902611361359991, 10161214849579801519, 5761524629066570524, 5210696953520355421, 11284764071839617423, 4828079911705176342, 237520521686688083, 9095936759746923072, 11322835879907139263, 17915833322846969771, 8747892382558106356, 78314097264374100, 13969461157248590943, 14128681342543018226, 1288533885339489845, 8472578129329550980, 10619615323691438768, 12927682224452460244, 8087755539859787235]
def st5 : List Nat := [4438425818239880957, 12154011841588621587, 10492737485762919032, 6432192348287190733, 11577202760270764617, 11669838029496559601, 5451517754323072142, 16982701752072535029, 246042156555179681, 17875588088510421541, 3157827212119388787, 13764485951608200368, 3593672038637564392, 635548532355542800, 13585740155353012404, 11618116697843836984, 4900327860589934983, 13947675411077856240, 16628772684683996000, 4329230101501477085, 7288038735805509133, 4883793476792014191, 7288601834594328748, 13309464087238265348, 12311214324297978049]
def st6 : List Nat := [16499474950129681366, 11655714036962935192, 10448821281149009784, 3608156662606143827, 13678519979464659023, 16153650965922225840, 4000035705085591409, 6140122229501693167, 2186449686101807275, 4124526029148431466, 2977576944304198416, 14741098192452751547, 5022940387200624486, 15573598241651238295, 7464524529147445567, 3690174292337455551, 6630671898984872349, 6822184463075586648, 18326424618611155433, 8787187976161697712, 11541051660492426402, 2523147053753786026, 6106333812383711747, 4546077890013699391, 12921973521901320783]
def st7 : List Nat := [3687971435119592758, 9967855548635341360, 4120767615704798943, 8875352962083802724, 15466724212632736977, 4823477050950765665, 1404460404785181942, 6518654630285674680, 13323436279154960957, 3632578509710162384, 64532848923670413, 16871089232356375606, 13327786004592336267, 17295443063414564917, 199654360294228312, 3504641593792403762, 8655294993421517056, 13451369071999328468, 5354992688639084607, 6316924134662929745, 17700077723074763263, 1550149486735479699, 1123413373257417126, 2838513421480110192, 3077280852550414418]
def st8 : List Nat := [1446730113857665067, 14194733217694531892, 3429828523516178075, 109130758801214972, 3393556851589187423, 10090827633123142589, 8108112463012218184, 5070426331666785469, 361944543597928513, 295921944706437168, 14380048879902976695, 7254273306258712415, 9357411924164312530, 2572802426187804005, 14293484046620904243, 1843384191987813074, 12461995486355493387, 9461436157009622276, 160362847014611062, 18392425524008328033, 12869119983649086798, 14547043626103114246, 3253439892038766768, 14272418755090651309, 18103980539057053920]
def st9 : List Nat := [10935871369740970337, 18212364069644033812, 14210802758612449606, 9429632988958859101, 15023700434921368654, 383831814039783309, 1404362074934796475, 208094606740015259, 1659571592345208538, 3022626629884588289, 9059915692528600689, 5282685005841034396, 1862132760721110126, 766965408450285558, 6844891255242006576, 8820283881002201078, 11810585138585854388, 3523970709667482994, 17793444751758244590, 6042384897773612301, 13198170828626853709, 15477857960561880286, 17614553849681783421, 12586616991873666161, 10251549669993873532]
def st10 : List Nat := [6946407974556591445, 5863216141781653750, 4422482230616748999, 695627267791089739, 1628757461612534605, 12088474625929643849, 7787916412747022388, 1505911638530579531, 7033803506759710097, 4411452234209574427, 14366660421219343549, 17256785942070551047, 9952334072326642181, 16434544844154071876, 4171319933885819241, 3031183164662364247, 11950569957801821799, 5798834066594171258, 11882702870932305885, 14992473763451908782, 7366304993559865441, 574966585180210182, 14218226856938578385, 1924891285783510789, 2255096824497918977]
def st11 : List Nat := [18409305898870958749, 1823102283257899970, 2552822938092238267, 6702202078129135261, 15355619748034473081, 12079291666638312992, 51608588329201092, 15154147323923794324, 13807704980087621892, 3617294156241132411, 13984201922501883975, 9843752004572339954, 7162675347928186953, 10040354371352647289, 13921940161365896412, 5177166640632750647, 6044931678942063241, 3339873444103539339, 13135418449381614158, 9707282029397553983, 17899553902826091483, 14803493754388037070, 8248800705583497504, 1589004955031787643, 11035407064342611792]
def st12 : List Nat := [17122214019080991264, 4849509909536215966, 8486347372312521329, 12024817693340302972, 4911098206067016449, 7474712465323052443, 10392778857059652608, 2767896956241398404, 15719977685798388004, 1572520271323537159, 6018658217858218559, 7862058351657412375, 3608766197987631779, 15493656073087108255, 18403560124111337733, 84539175430429976, 8352609943605917626, 9677598959422921444, 15313417922697316438, 17791855736981245136, 14240048961778013164, 15348323344649613147, 13650016541165209300, 1469740171907555167, 14066195027876395293]
def st13 : List Nat := [14402096784052998612, 4485518783441531930, 5438654720971675635, 1195912118347825716, 14072112710907379854, 20073291236825790, 780485351770770419, 13854743252258427339, 2306057901589110057, 2659065601421627813, 4971248406548597056, 5536202953729909432, 10820064280280236149, 17697924616938634914, 14814205307492313922, 11020723669376254969, 13322431047707571560, 6329791413456348212, 5611520758514803845, 9546190388993604384, 7982215169403135905, 13772322406836021437, 3386713375999807324, 15040914064865607150, 17690285616912006019]
def st14 : List Nat := [14944167462476582293, 1386175563095099634, 8045515031378536110, 4593755697770126954, 8968150662054232446, 9239523488409921701, 15269367641794765177, 157606202336072541, 8726578936658901172, 3949347296846943894, 2275771384478732405, 4720473342402378183, 4287739163841632890, 9481530452186431539, 11949649230820213370, 5501115840068557010, 822526705531401714, 6301621141448987117, 3231172125482634384, 8983251015963426565, 15062301558901659982, 5641153917145660932, 9065104182467002617, 467501803622318069, 838522537249952276]
def st15 : List Nat := [6818964727703147194, 13583307523345997999, 12484129369476053613, 4731585849998448075, 7286326068029340374, 2435954121717275492, 6482097954224415211, 8104433647712796178, 7386504771300656320, 1368681119205041665, 5763213269091778563, 544300949235620238, 2302176229257632323, 2553796994192621064, 4355285813898214378, 16926013862808255345, 13806608540251322902, 9790095038527574469, 10474487949346372833, 7660681018487645238, 9034401234810712325, 6132488206146857793, 4449156951833500865, 16658332042049330395, 7556940589216437703]
def st16 : List Nat := [2693669802026538847, 6107770442579387973, 16312010364480766037, 17979600482598878073, 5237949341362773268, 17942113281015532135, 17490425405609553747, 16192822791573997260, 12336730529052197387, 15794789958408965237, 1478957683365710581, 2170801857091758945, 6127059349322025305, 762210298940380314, 9553682131529426737, 11174687990793958569, 12722644508960065316, 5345867377446952263, 1062291373058530803, 6848905474819049462, 15691522734929074018, 10692113813212840333, 6475015835764216971, 3271195682448691962, 3270228702386797309]
def st17 : List Nat := [13939529060088682899, 14369188844846149973, 17384643277840776313, 3710806088173620606, 17101666673014419459, 13334907404825380387, 16824628662763178012, 2640388866877964856, 9685928637251386712, 11845469849475127278, 12576080000018071338, 10686117972828552227, 1509343940193211122, 7173609297923125891, 16646260049245853518, 8803648431804866315, 11533575815834770010, 11681212139701245815, 11678876300701401238, 13881103035209575378, 7305588205897940546, 1791015927668400365, 1131721431309784699, 8063763896429426236, 5078400573220349671]
def st18 : List Nat := [17619458910399221111, 7237015947205978530, 11257603791873238992, 9650217512951867078, 11553313105955247004, 14539486290222552902, 4037538528906233402, 2081405209087922213, 1738098355949225966, 3994689404865001607, 7764765282521274314, 3635601260369237636, 16625616686205948588, 12538259895962218472, 13430037999374633555, 6435553964371009127, 1550401389489147421, 235617487655967250, 18265834211665006447, 1144701988858882608, 12340580644190636582, 16462780273811051527, 18325273772366039245, 5096094076169328089, 7261288686468589585]
def st19 : List Nat := [11383857772182595625, 10019698285200397380, 4352783232291156288, 5268213722114301519, 11866482289543265075, 12642709099557332396, 4283167824075761360, 6615741434023351604, 1644185313935815466, 16013670342687821878, 17045886261642965600, 1398633968256603040, 3997233841947367418, 5195299654459033550, 8059126927091108475, 122372280055182977, 15191260205506830890, 15574202185310000640, 728440672041624676, 6708135563563358442, 4908117251178044234, 8432936037074152625, 9364920138645909109, 12491585662204924368, 13929782114326343408]
def st20 : List Nat := [15957315671677092924, 3421625643740534872, 7391331159189323084, 15424056644196106398, 17485527899198785901, 6582946568201731636, 10642260243915323079, 17303005345769899531, 8045201254526509860, 4082318965918053951, 7000268453345830856, 1840842310477187343, 7918544263596875775, 15677402106192169466, 88033701132442207, 2679334029002178514, 17194666158050959158, 3807405398781747835, 11473436461014468078, 11684120775679231188, 11986464999905691940, 4666719193226567274, 11689123896410623932, 16788635782956481905, 18081433208629609388]
def st21 : List Nat := [14465406218453170193, 17213012633246885038, 13953816950996834103, 192026411575971105, 8728317294215171415, 4236865325185145033, 4916986020155288801, 7451903168580569526, 13680755766513518432, 1511775720125787065, 2657893601234346539, 4302677494320929301, 2734040327932551965, 1091853814133761629, 706841913141269015, 5536226231817340956, 7695941173608347012, 10138475614152765114, 7587295590566955550, 16619307902390783408, 3859658823203107655, 1167268258471334454, 12828211485278476506, 17921084477189761453, 13198717093336899227]
def st22 : List Nat := [7083302819572683982, 3831307776881955971, 15585036413567545375, 7424482027693505307, 301317305420298699, 12349005130815816004, 17749030915140627367, 12874467070043714311, 6627213250974237756, 10905918571619739862, 7243998191801810358, 5422297685394228915, 5735141319470299230, 9272915056603516920, 15515137098356333727, 2492735313101193917, 18398127608144243755, 11931676739146642232, 10119504493835850554, 2307535693103094957, 4222893653779032956, 9961328167254892577, 16794121583412331562, 2166246628261458888, 10944531486472855838]
def st23 : List Nat := [4870895817676100445, 14249170420766409223, 7876777288910842429, 13751770767335442498, 2797896895878034597, 1183150458544848883, 10232430758078685865, 16832323143811493871, 7952463050715865329, 2381559601500518965, 11961814311834326246, 13773545145447989285, 13606489135841610582, 8130106043679795425, 17521774489081277497, 14356500695186664390, 9587501650999424981, 2240671107818435755, 390856379251278785, 18433588433588304462, 8521545875821628278, 10798098704819305915, 5263481220015000192, 15434075917826711147, 12701360187728004435]
def st24 : List Nat := [12836915144627689530, 13659650127086181380, 6580494897001291653, 3608864417873313606, 17874948528354506449, 2348566366763630119, 3599156074273288695, 10367133458316451740, 11483760744433370284, 12108521354799725218, 13768354540184074050, 3500137825564227775, 1912775480511039586, 6972923045565212421, 2244051771410685518, 7138831979214414319, 5422184856821948861, 3512518658046197130, 15164272221349545673, 2712204227642176901, 6900990571980570312, 215085213393108161, 7386066746027502787, 15402962915016710781, 13103395320785080385]
theorem st1_is : rouL st0 0 = st1 := by kernel_rfl
theorem st2_is : rouL st1 1 = st2 := by kernel_rfl
theorem st3_is : rouL st2 2 = st3 := by kernel_rfl
theorem st4_is : rouL st3 3 = st4 := by kernel_rfl
theorem st5_is : rouL st4 4 = st5 := by kernel_rfl
theorem st6_is : rouL st5 5 = st6 := by kernel_rfl
theorem st7_is : rouL st6 6 = st7 := by kernel_rfl
theorem st8_is : rouL st7 7 = st8 := by kernel_rfl
theorem st9_is : rouL st8 8 = st9 := by kernel_rfl
theorem st10_is : rouL st9 9 = st10 := by kernel_rfl
theorem st11_is : rouL st10 10 = st11 := by kernel_rfl
theorem st12_is : rouL st11 11 = st12 := by kernel_rfl
theorem st13_is : rouL st12 12 = st13 := by kernel_rfl
theorem st14_is : rouL st13 13 = st14 := by kernel_rfl
theorem st15_is : rouL st14 14 = st15 := by kernel_rfl
theorem st16_is : rouL st15 15 = st16 := by kernel_rfl
theorem st17_is : rouL st16 16 = st17 := by kernel_rfl
theorem st18_is : rouL st17 17 = st18 := by kernel_rfl
theorem st19_is : rouL st18 18 = st19 := by kernel_rfl
theorem st20_is : rouL st19 19 = st20 := by kernel_rfl
theorem st21_is : rouL st20 20 = st21 := by kernel_rfl
theorem st22_is : rouL st21 21 = st22 := by kernel_rfl
theorem st23_is : rouL st22 22 = st23 := by kernel_rfl
theorem st24_is : rouL st23 23 = st24 := by kernel_rfl
theorem perm_abc (a : Nat -> Nat) (ha : ∀ j, j < 25 -> a j < 18446744073709551616) (h : ∀ j, j < 25 -> a j = st0.getD j 0) : ∀ j, j < 25 -> permF a j = st24.getD j 0 := by
 have s0 : ∀ j, j < 25 -> permR a 0 j = st0.getD j 0 := h
 have s1 : ∀ j, j < 25 -> permR a 1 j = st1.getD j 0 := fun j hj => by rw [<- st1_is]; exact rou_at (permR a 0) st0 (permR_lt a ha 0) s0 0 j hj
 have s2 : ∀ j, j < 25 -> permR a 2 j = st2.getD j 0 := fun j hj => by rw [<- st2_is]; exact rou_at (permR a 1) st1 (permR_lt a ha 1) s1 1 j hj
 have s3 : ∀ j, j < 25 -> permR a 3 j = st3.getD j 0 := fun j hj => by rw [<- st3_is]; exact rou_at (permR a 2) st2 (permR_lt a ha 2) s2 2 j hj
 have s4 : ∀ j, j < 25 -> permR a 4 j = st4.getD j 0 := fun j hj => by rw [<- st4_is]; exact rou_at (permR a 3) st3 (permR_lt a ha 3) s3 3 j hj
 have s5 : ∀ j, j < 25 -> permR a 5 j = st5.getD j 0 := fun j hj => by rw [<- st5_is]; exact rou_at (permR a 4) st4 (permR_lt a ha 4) s4 4 j hj
 have s6 : ∀ j, j < 25 -> permR a 6 j = st6.getD j 0 := fun j hj => by rw [<- st6_is]; exact rou_at (permR a 5) st5 (permR_lt a ha 5) s5 5 j hj
 have s7 : ∀ j, j < 25 -> permR a 7 j = st7.getD j 0 := fun j hj => by rw [<- st7_is]; exact rou_at (permR a 6) st6 (permR_lt a ha 6) s6 6 j hj
 have s8 : ∀ j, j < 25 -> permR a 8 j = st8.getD j 0 := fun j hj => by rw [<- st8_is]; exact rou_at (permR a 7) st7 (permR_lt a ha 7) s7 7 j hj
 have s9 : ∀ j, j < 25 -> permR a 9 j = st9.getD j 0 := fun j hj => by rw [<- st9_is]; exact rou_at (permR a 8) st8 (permR_lt a ha 8) s8 8 j hj
 have s10 : ∀ j, j < 25 -> permR a 10 j = st10.getD j 0 := fun j hj => by rw [<- st10_is]; exact rou_at (permR a 9) st9 (permR_lt a ha 9) s9 9 j hj
 have s11 : ∀ j, j < 25 -> permR a 11 j = st11.getD j 0 := fun j hj => by rw [<- st11_is]; exact rou_at (permR a 10) st10 (permR_lt a ha 10) s10 10 j hj
 have s12 : ∀ j, j < 25 -> permR a 12 j = st12.getD j 0 := fun j hj => by rw [<- st12_is]; exact rou_at (permR a 11) st11 (permR_lt a ha 11) s11 11 j hj
 have s13 : ∀ j, j < 25 -> permR a 13 j = st13.getD j 0 := fun j hj => by rw [<- st13_is]; exact rou_at (permR a 12) st12 (permR_lt a ha 12) s12 12 j hj
 have s14 : ∀ j, j < 25 -> permR a 14 j = st14.getD j 0 := fun j hj => by rw [<- st14_is]; exact rou_at (permR a 13) st13 (permR_lt a ha 13) s13 13 j hj
 have s15 : ∀ j, j < 25 -> permR a 15 j = st15.getD j 0 := fun j hj => by rw [<- st15_is]; exact rou_at (permR a 14) st14 (permR_lt a ha 14) s14 14 j hj
 have s16 : ∀ j, j < 25 -> permR a 16 j = st16.getD j 0 := fun j hj => by rw [<- st16_is]; exact rou_at (permR a 15) st15 (permR_lt a ha 15) s15 15 j hj
 have s17 : ∀ j, j < 25 -> permR a 17 j = st17.getD j 0 := fun j hj => by rw [<- st17_is]; exact rou_at (permR a 16) st16 (permR_lt a ha 16) s16 16 j hj
 have s18 : ∀ j, j < 25 -> permR a 18 j = st18.getD j 0 := fun j hj => by rw [<- st18_is]; exact rou_at (permR a 17) st17 (permR_lt a ha 17) s17 17 j hj
 have s19 : ∀ j, j < 25 -> permR a 19 j = st19.getD j 0 := fun j hj => by rw [<- st19_is]; exact rou_at (permR a 18) st18 (permR_lt a ha 18) s18 18 j hj
 have s20 : ∀ j, j < 25 -> permR a 20 j = st20.getD j 0 := fun j hj => by rw [<- st20_is]; exact rou_at (permR a 19) st19 (permR_lt a ha 19) s19 19 j hj
 have s21 : ∀ j, j < 25 -> permR a 21 j = st21.getD j 0 := fun j hj => by rw [<- st21_is]; exact rou_at (permR a 20) st20 (permR_lt a ha 20) s20 20 j hj
 have s22 : ∀ j, j < 25 -> permR a 22 j = st22.getD j 0 := fun j hj => by rw [<- st22_is]; exact rou_at (permR a 21) st21 (permR_lt a ha 21) s21 21 j hj
 have s23 : ∀ j, j < 25 -> permR a 23 j = st23.getD j 0 := fun j hj => by rw [<- st23_is]; exact rou_at (permR a 22) st22 (permR_lt a ha 22) s22 22 j hj
 have s24 : ∀ j, j < 25 -> permR a 24 j = st24.getD j 0 := fun j hj => by rw [<- st24_is]; exact rou_at (permR a 23) st23 (permR_lt a ha 23) s23 23 j hj
 exact s24
theorem fill_abc : tabL 25 (lanX (lanX (lanX (fun _ => 0) 0 3 abcC) 3 1 (fun _ => 6)) ((136 : Nat) - 1 : Int) 1 (fun _ => 128)) = st0 := by kernel_rfl
def abcS : Spg := ⟨136, 6, lanX (fun _ => 0) 0 3 abcC, 3, false⟩
theorem wrote_abc {s : Spg} (h : Wrote (freshS 8) 3 abcC s) : s = abcS := by
 obtain ⟨n, h1, h2, rfl⟩ := h
 have e0 : lU 0 3 3 ((freshS 8).rate - (freshS 8).at_) (freshS 8).rate 0 = 3 := by kernel_rfl
 have e1 : lU 0 3 3 ((freshS 8).rate - (freshS 8).at_) (freshS 8).rate 1 = 0 := by kernel_rfl
 obtain rfl : n = 1 := by
  rcases Nat.lt_trichotomy n 1 with h | h | h
  ·obtain rfl : n = 0 := by omega
   omega
  ·exact h
  ·have := h1 1 h
   omega
 have en : nU 0 3 3 ((freshS 8).rate - (freshS 8).at_) (freshS 8).rate 0 = 3 := by kernel_rfl
 have e : sU (freshS 8) 3 3 0 abcC 1 = absorb1 (freshS 8) (nU 0 3 3 ((freshS 8).rate - (freshS 8).at_) (freshS 8).rate 0) (fun i => abcC (3 - lU 0 3 3 ((freshS 8).rate - (freshS 8).at_) (freshS 8).rate 0 + i)) := rfl
 rw [e, en, e0]
 have eg : (fun i => abcC (3 - 3 + i)) = abcC := by funext i; rw [Nat.sub_self, Nat.zero_add]
 rw [eg]
 rfl
theorem read_abc : readL abcS 32 = (List.range 32).map (byteL (fun j => st24.getD j 0)) := by
 have e : readL abcS 32 = (List.range 32).map (fun i => byteL (permF (lanX (lanX (lanX (fun _ => 0) 0 3 abcC) 3 1 (fun _ => 6)) ((136 : Nat) - 1 : Int) 1 (fun _ => 128))) (0 + i)) ++ [] := by kernel_rfl
 rw [e, List.append_nil]
 apply List.map_congr_left
 intro i hi
 have hi : i < 32 := by simpa using hi
 rw [Nat.zero_add]
 unfold byteL
 rw [perm_abc _ ?_ ?_ _ (by omega)]
 ·intro j hj
  rw [<- tabL_at (f := lanX (lanX (lanX (fun _ => 0) 0 3 abcC) 3 1 (fun _ => 6)) ((136 : Nat) - 1 : Int) 1 (fun _ => 128)) hj, fill_abc]
  have h : ∀ x ∈ st0, x < 18446744073709551616 := by decide
  exact getD_lt_of h (by decide) j
 ·intro j hj
  rw [<- tabL_at (f := lanX (lanX (lanX (fun _ => 0) 0 3 abcC) 3 1 (fun _ => 6)) ((136 : Nat) - 1 : Int) 1 (fun _ => 128)) hj, fill_abc]
def hexS : ByteArray := ⟨#[51, 97, 57, 56, 53, 100, 97, 55, 52, 102, 101, 50, 50, 53, 98, 50, 48, 52, 53, 99, 49, 55, 50, 100, 54, 98, 100, 51, 57, 48, 98, 100, 56, 53, 53, 102, 48, 56, 54, 101, 51, 101, 57, 100, 53, 50, 53, 98, 52, 54, 98, 102, 101, 50, 52, 53, 49, 49, 52, 51, 49, 53, 51, 50]⟩
theorem hex_abc : (⟨(hexL (fun j => (readL abcS 32).getD j 0) 32).toArray⟩ : ByteArray) = hexS /\ ∀ j, j < 32 -> (readL abcS 32).getD j 0 < 256 := by
 rw [read_abc]
 refine ⟨by kernel_rfl, fun j hj => ?_⟩
 have : ∀ x ∈ (List.range 32).map (byteL (fun j => st24.getD j 0)), x < 256 := by
  intro x hx
  obtain ⟨i, _, rfl⟩ := List.mem_map.1 hx
  exact byteL_lt _ _
 exact getD_lt_of this (by decide) j
end
end Go.Proofs.YtdobjciaikofdaaGreatDoor
