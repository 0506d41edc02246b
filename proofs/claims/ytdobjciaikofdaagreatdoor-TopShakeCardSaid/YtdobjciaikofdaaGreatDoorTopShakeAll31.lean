/- Part 31 of 39 of what the proof of this law needs. Put together by a program out of the texts: Hl Hm Hn HoA. -/
import Derived.Test.YtdobjciaikofdaaGreatDoorTopShakeAll30
import Derived.Test.YtdobjciaikofdaaGreatDoorTopShakeAll11
namespace Go.Proofs.YtdobjciaikofdaaGreatDoor
section
open Go.RowKit Go.Shelf Bt
attribute [local go_sem] Oper.semAt_some
set_option maxRecDepth 100000 in
set_option maxHeartbeats 2000000 in
theorem all_stops (n : Nat) (hn : 1 <= n) (Kp : World -> World -> Prop) (hKp : ∀ W W', Kp W W' -> TabE W -> TabE W') (w : World) (ht : TabE w) :
  SeqStopsK Fence.wide n Tryz.prog 307 #[] (fun k : Nat => #[.int .i64 (k + 1 : Nat), .string (algW (k + 1))]) Kp
   (fun ys => ys = List.range 14) (fun pre => ∃ k, k < 14 /\ pre = List.range (k + 1)) 14 w := by
 intro l J Jx W hW hJ _ hY h0
 have ht1 : TabE W := ht.grown (gb_below (r := none) hW) (by simp)
 have HY := Lib.hid hY
 have HK := Lib.hid hKp
 clear hY hKp hW ht hJ
 show CallsIn Fence.wide n Tryz.prog 307 #[.func (.yield l) #[] #[]] W _
 refine callsIn_of_wp Tryz.func307 rfl trivial ?_ rfl
 simp only [Tryz.ntmps307, List.size_toArray, List.length_cons, List.length_nil, Nat.reduceAdd, Nat.reduceSub, Array.replicate_succ, Array.replicate_zero, List.push_toArray, List.append_toArray, List.nil_append, List.cons_append]
 gi_wp2
 gi_loopw [2] (fun i wr => ∃ k : Nat, k <= 14 /\ i = .int .i64 ((k + 1 : Nat) : Int) /\ J (List.range k) wr /\ TabE wr) (fun i _ => 15 - (intOf i).toNat)
 case atStart => exact ⟨0, by omega, rfl, h0, ht1⟩
 case round =>
  obtain ⟨k, hk, rfl, hJ, ht2⟩ := hrel
  clear h0 ht1
  by_cases hlt : k < 14
  ·have c0 := ht2.word (k + 1) (by omega)
   have hT2 := Lib.hid ht2
   obtain ⟨i, hi⟩ : ∃ i : Nat, Hid (i = k + 1) := ⟨k + 1, Lib.hid rfl⟩
   obtain ⟨fn, tmps, assign, body, hy, hR⟩ := HY.out (List.range k) k wr hJ (by simpa using hlt)
   rw [<- hi.out] at c0 hy ⊢
   have hil : (i : Int) < 15 := by have := hi.out; omega
   have hil2 : i < 15 := by have := hi.out; omega
   have HR := Lib.hid hR
   clear hR ht2
   gi_wp2
   refine HR.out.mono ?_
   rintro e W3 (⟨rfl, hJ3, hk3⟩ | ⟨rfl, hJx3⟩)
   ·have ht3 := HK.out _ _ hk3 hT2.out
    clear hk3 hy c0
    gi_wp2
    go_roundw
    case rel => exact ⟨k + 1, by omega, by have := hi.out; subst this; go_num, by rw [<- List.range_succ] at hJ3; exact hJ3, ht3⟩
    case measure => have := hi.out; simp [intOf]; omega
   ·gi_wp2
    refine bodyPost_ret (results_none rfl _ _ _) rfl ?_
    exact ⟨⟨_, rfl⟩, .inr ⟨List.range (k + 1), ⟨k, hlt, rfl⟩, by rw [<- List.range_succ] at hJx3; exact hJx3⟩⟩
  ·obtain rfl : k = 14 := by omega
   gi_wp2
   go_end0
   exact ⟨⟨_, rfl⟩, .inl ⟨List.range 14, rfl, hJ⟩⟩
theorem all_w (w : World) : Calls Tryz.prog 283 #[] w fun e w' => e = .returned (.func (.func 307) #[] #[]) /\ w = w' := by
 go_enter Tryz.func283, Tryz.ntmps283
 go_wp2
 go_ret
 exact ⟨rfl, rfl⟩
theorem algW_ne (x : Nat) (hx : x ≠ 7) : ((algW (x + 1)).toList == (algW 8).toList) = false := by
 by_cases h : x < 14
 ·obtain rfl | rfl | rfl | rfl | rfl | rfl | rfl | rfl | rfl | rfl | rfl | rfl | rfl | rfl : x = 0 \/ x = 1 \/ x = 2 \/ x = 3 \/ x = 4 \/ x = 5 \/ x = 6 \/ x = 7 \/ x = 8 \/ x = 9 \/ x = 10 \/ x = 11 \/ x = 12 \/ x = 13 := by omega
  all_goals first | exact absurd rfl hx | kernel_rfl
 ·have e : algW (x + 1) = ⟨#[]⟩ := by
   unfold algW
   rw [List.getD_eq_getElem?_getD, List.getElem?_eq_none (by simp [wordL]; omega)]
   rfl
  have h2 : ((⟨#[]⟩ : ByteArray).toList == (algW 8).toList) = false := by kernel_rfl
  rw [e, h2]
theorem cell_set_same {w : World} {b o : Nat} {u : Value} (h : w.cell? ⟨b, o, none⟩ = some u) (v : Value) : (w.setCell ⟨b, o, none⟩ v).cell? ⟨b, o, none⟩ = some v := by
 unfold World.cell? at h
 unfold World.cell? World.setCell
 dsimp only at h ⊢
 rw [Array.getElem?_modify, if_pos rfl]
 rcases hb : w.heap[b]? with _ | x
 ·rw [hb] at h; cases h
 ·rw [hb] at h
  cases x <;> first | (cases h; done) | skip
  rename_i c e fr
  dsimp only [Option.map] at h ⊢
  have hlt : o < c.size := by
   rcases Nat.lt_or_ge o c.size with h' | h'
   ·exact h'
   ·simp [Array.getElem?_eq_none h'] at h
  simp [hlt]
set_option maxRecDepth 100000 in
set_option maxHeartbeats 4000000 in
theorem find_w (w : World) (ht : TabE w) : Calls Tryz.prog 255 #[.string (algW 8)] w fun e w' => e = .returned (.tuple #[.int .i64 8, .bool true]) /\ Below w.heap.size w w' := by
 have HT := Lib.hid ht
 have hlt0 := cell_lt (ht.word 0 (by omega))
 refine (callsIn_wide (n := 6)).1 ?_
 refine callsIn_of_wp_marks Tryz.func255 rfl trivial ?_
 simp only [Tryz.ntmps255, List.size_toArray, List.length_cons, List.length_nil, Nat.reduceAdd, Nat.reduceSub, Array.replicate_succ, Array.replicate_zero, List.push_toArray, List.append_toArray, List.nil_append, List.cons_append]
 obtain ⟨wd, hwd⟩ : ∃ wd, Hid (wd = algW 8) := ⟨_, Lib.hid rfl⟩
 rw [<- hwd.out]
 clear ht
 gi_wp2_with (refine ⟨trivial, ?_⟩; gi_at_call 283; refine (callsIn_wide.2 (all_w _)).mono ?_; rintro e w' ⟨rfl, rfl⟩)
 have bW := Boxed.new w 9 (.string wd)
 have bI := Boxed.new (w.alloc (.cells #[.string wd] 9)) 3 (.int .i64 0)
 have bB := Boxed.new ((w.alloc (.cells #[.string wd] 9)).alloc (.cells #[.int .i64 0] 3)) 4 (.bool false)
 simp only [World.size_alloc] at bW bI bB
 have hBl : Below w.heap.size w (((w.alloc (.cells #[.string wd] 9)).alloc (.cells #[.int .i64 0] 3)).alloc (.cells #[.bool false] 4)) := bl_alloc (bl_alloc (bl_alloc (bl_refl w)))
 have hsz0 : (((w.alloc (.cells #[.string wd] 9)).alloc (.cells #[.int .i64 0] 3)).alloc (.cells #[.bool false] 4)).heap.size = w.heap.size + 3 := by simp
 obtain ⟨W0, hW0⟩ : ∃ W0, ((w.alloc (.cells #[.string wd] 9)).alloc (.cells #[.int .i64 0] 3)).alloc (.cells #[.bool false] 4) = W0 := ⟨_, rfl⟩
 have bW0 : Boxed W0 w.heap.size 9 (.string wd) := by rw [<- hW0]; exact (bW.alloc _).alloc _
 have bI0 : Boxed W0 (w.heap.size + 1) 3 (.int .i64 0) := by rw [<- hW0]; exact bI.alloc _
 have bB0 : Boxed W0 (w.heap.size + 1 + 1) 4 (.bool false) := by rw [<- hW0]; exact bB
 rw [hW0] at hBl hsz0 ⊢
 clear bW bI bB hW0
 have ht0 : TabE W0 := HT.out.grown (gb_below (r := none) hBl) (by simp)
 have hst := all_stops 5 (by omega) (fun A B => ∀ k, k < w.heap.size + 3 -> B.heap[k]? = A.heap[k]?) (fun A B h hA => ⟨fun a ha => by rw [World.cell?_of_block (h _ (by show 2 < _; omega))]; exact hA.word a ha, fun a ha => by rw [World.cell?_of_block (h _ (by show 2 < _; omega))]; exact hA.kind a ha, fun a ha => by rw [World.cell?_of_block (h _ (by show 2 < _; omega))]; exact hA.dig a ha, fun a ha => by rw [World.cell?_of_block (h _ (by show 2 < _; omega))]; exact hA.blk a ha⟩) W0 ht0
 refine wpIn_rangeFunc_ownG rfl (by omega) (gf := 307) (lb := #[]) rfl trivial (enters_of Tryz.func307 (by kernel_rfl) rfl)
  hst (fun h k => fun i hi => (k i hi).trans (h i hi)) (fun W l o o' hl _ _ _ => fun k hk => World.putObj_heap_other (by omega)) (Below.refl _ _) (fun _ => rfl)
  (fun pre W => (∀ x ∈ pre, x ≠ 7) /\ Below W0.heap.size W0 W)
  (fun c pre W => (c = .ret /\ W.cell? ⟨w.heap.size + 1, 0, none⟩ = some (.int .i64 8) /\ W.cell? ⟨w.heap.size + 1 + 1, 0, none⟩ = some (.bool true)) /\ Below w.heap.size w W)
  ?hI ?hIx ?h0 (fun x => { tmps := #[.string wd, .pointer (some ⟨w.heap.size, 0, none⟩), .pointer (some ⟨w.heap.size + 1, 0, none⟩), .pointer (some ⟨w.heap.size + 1 + 1, 0, none⟩), .int .i64 (x + 1 : Nat), .string (algW (x + 1)), .func (.func 307) #[] #[], .int .i64 (x + 1 : Nat), .string (algW (x + 1)), undef, undef, undef, undef], defers := [] }) ?assign ?body ?done ?stop
 case hI => exact OwnFrom.and (fun _ _ _ _ h _ _ => h) (ownFrom_below (Nat.le_refl _) (Nat.le_refl _))
 case hIx =>
  intro c
  exact OwnFrom.and (Own.from (fun s A B row hs hg hr => ⟨hs.1, cell_kept hs.2.1 hg hr, cell_kept hs.2.2 hg hr⟩) _) (ownFrom_below (Nat.le_refl _) (by omega))
 case h0 => exact ⟨by simp, Below.refl _ _⟩
 case assign =>
  intro l x W K hK
  gi_wp2
  exact hK
 case body =>
  rintro l pre x W ⟨hall, hbel⟩ hpre
  have HA := Lib.hid hall
  have HB := Lib.hid hbel
  have c0 := (hbel.cell (p := ⟨w.heap.size, 0, none⟩) (by show w.heap.size < W0.heap.size; omega)).trans bW0.cell
  have c1 := (hbel.cell (p := ⟨w.heap.size + 1, 0, none⟩) (by show w.heap.size + 1 < W0.heap.size; omega)).trans bI0.cell
  have c2 := (hbel.cell (p := ⟨w.heap.size + 1 + 1, 0, none⟩) (by show w.heap.size + 1 + 1 < W0.heap.size; omega)).trans bB0.cell
  clear hall hbel hst
  have f1 := (World.frozen?_of_block (a := ⟨w.heap.size + 1, 0, none⟩) (HB.out.block _ (by show w.heap.size + 1 < W0.heap.size; omega))).trans bI0.frozen
  have f2 := (World.frozen?_of_block (a := ⟨w.heap.size + 1 + 1, 0, none⟩) (HB.out.block _ (by show w.heap.size + 1 + 1 < W0.heap.size; omega))).trans bB0.frozen
  by_cases hx : x = 7
  ·subst hx
   rw [show algW (7 + 1) = wd from hwd.out.symm]
   have h7 : (wd.toList == wd.toList) = true := by simp
   gi_wp2
   refine ⟨?_, ⟨rfl, ?_, ?_⟩, ?_⟩
   ·exact (KeepsFrom.of_grownBy (gb_set W _ _ _) (by rintro j hj; cases hj; omega)).trans (KeepsFrom.of_grownBy (gb_set _ _ _ _) (by rintro j hj; cases hj; omega))
   ·have e1 : ((W.setCell ⟨w.heap.size + 1, 0, none⟩ (.int .i64 8)).setCell ⟨w.heap.size + 1 + 1, 0, none⟩ (.bool true)).cell? ⟨w.heap.size + 1, 0, none⟩ = (W.setCell ⟨w.heap.size + 1, 0, none⟩ (.int .i64 8)).cell? ⟨w.heap.size + 1, 0, none⟩ := World.cell?_of_block (Below.heap_setCell _ _ _ _ (by show w.heap.size + 1 ≠ w.heap.size + 1 + 1; omega))
    rw [e1]
    exact cell_set_same c1 _
   ·exact cell_set_same ((World.cell?_of_block (Below.heap_setCell _ _ _ _ (by show w.heap.size + 1 + 1 ≠ w.heap.size + 1; omega))).trans c2) _
   ·exact ((hBl.trans (HB.out.mono (by omega))).setCell (by show w.heap.size <= w.heap.size + 1; omega) _).setCell (by show w.heap.size <= w.heap.size + 1 + 1; omega) _
  ·obtain ⟨sx, hsx⟩ : ∃ sx, Hid (sx = algW (x + 1)) := ⟨_, Lib.hid rfl⟩
   have hne : (sx.toList == wd.toList) = false := by rw [hsx.out, hwd.out]; exact algW_ne x hx
   rw [<- hsx.out]
   gi_wp2
   refine ⟨KeepsFrom.refl _ _, fun _ _ => rfl, ?_, HB.out⟩
   intro y hy
   rcases List.mem_append.1 hy with h1 | h1
   ·exact HA.out y h1
   ·have e : y = x := by simpa using h1
    rw [e]
    exact hx
 case done =>
  rintro D ys W hD rfl ⟨hall, _⟩ _
  exact absurd rfl (hall 7 (by decide))
 case stop =>
  rintro D c pre W hD _ ⟨⟨rfl, c1, c2⟩, hbel⟩ hK
  gi_wp2
  refine ⟨by simp, .inl ⟨_, _, rfl, run_takeDeferred hK, ?_⟩⟩
  have k1 := (World.cell?_of_block (a := ⟨w.heap.size + 1, 0, none⟩) (World.putObj_heap_other (w := W) (r := D) (o := .deferred none) (by show w.heap.size + 1 ≠ D; omega))).trans c1
  have k2 := (World.cell?_of_block (a := ⟨w.heap.size + 1 + 1, 0, none⟩) (World.putObj_heap_other (w := W) (r := D) (o := .deferred none) (by show w.heap.size + 1 + 1 ≠ D; omega))).trans c2
  exact ⟨.tuple #[.int .i64 8, .bool true], by simp [results, Tryz.results255, go_sem, k1, k2], rfl, hbel.trans (belowK_b (w := w) (Nat.le_refl _) W D _ _ (by omega) hK rfl rfl)⟩
end
section
open Go.RowKit Go.Shelf Bt
attribute [local go_sem] lt_s2 lt_s3 lt_s4 lt_s5 lt_s6
def dashS : ByteArray := ⟨#[45]⟩
section
variable {cb : Nat} {kind h alg n : Int} {ns ss b : Value}
theorem getAlg_w (w : World) (hc : Cl w cb (callC kind h alg n ns ss b)) (ht : TabE w) :
  Calls Tryz.prog 202 #[.pointer (some ⟨cb, 0, none⟩), .string (algW 8)] w fun e w' => e = .returned (.bool true) /\ Cl w' cb (callC kind h 8 n ns ss b) /\ w.grownBy w' (some cb) := by
 have CF := Lib.hid (find_w w ht)
 obtain ⟨wd, hwd⟩ : ∃ wd, Hid (wd = algW 8) := ⟨_, Lib.hid rfl⟩
 rw [<- hwd.out] at CF ⊢
 have HC := Lib.hid hc
 clear hc ht
 go_enter Tryz.func202, Tryz.ntmps202
 go_wp2_with (go_at_call 255; (with_reducible refine CF.out.mono ?_); rintro e w1 ⟨rfl, hB⟩; have C1 := HC.out.below hB; obtain ⟨c0, f0⟩ := C1.cell 2; have c1 : w1.cell? ⟨cb, 2, none⟩ = some (.int .i64 alg) := c0; have H1 := Lib.hid C1; have HB := Lib.hid hB; clear hB C1 c0)
 go_ret
 exact ⟨rfl, H1.out.set 2 _, gb_trans (gb_below HB.out) (gb_set _ _ _ _)⟩
theorem put_empty (a : Option Addr) (c : Nat) (w : World) : Calls Tryz.prog 223 #[.slice a 0 c] w fun e w' => e = .returned (.string dashS) /\ w = w' := by
 go_enter Tryz.func223, Tryz.ntmps223
 go_wp2
 go_ret
 exact ⟨rfl, rfl⟩
theorem putH_w (w : World) (hc : Cl w cb (callC kind 1 alg n ns ss b)) :
  Calls Tryz.prog 199 #[.pointer (some ⟨cb, 0, none⟩)] w fun e w' => e = .returned (.string w1S) /\ Below w.heap.size w w' := by
 have c1 : w.cell? ⟨cb, 1, none⟩ = some (.int .i64 1) := (hc.cell 1).1
 have CN : Hid (∀ W, Calls Tryz.prog 96 #[.int .u64 1] W fun e w' => e = .returned (.string w1S) /\ W = w') := Lib.hid fun W => by have := number_w 1 (by decide) W; rw [decW_one] at this; exact this
 clear hc
 go_enter Tryz.func199, Tryz.ntmps199
 go_wp2_with (go_at_call 96; (with_reducible refine (CN.out _).mono ?_); rintro e w1 ⟨rfl, rfl⟩)
 go_ret
 exact ⟨rfl, bl_refl _⟩
theorem putAlg_w (w : World) (hc : Cl w cb (callC kind h 8 n ns ss b)) (ht : TabE w) :
  Calls Tryz.prog 203 #[.pointer (some ⟨cb, 0, none⟩)] w fun e w' => e = .returned (.string (algW 8)) /\ Below w.heap.size w w' := by
 have c1 : w.cell? ⟨cb, 2, none⟩ = some (.int .i64 8) := (hc.cell 2).1
 have CN : Hid (Calls Tryz.prog 256 #[.int .i64 8] w fun e w' => e = .returned (.string (algW 8)) /\ Below w.heap.size w w') := Lib.hid (word_w 8 (by decide) w ht)
 obtain ⟨wd, hwd⟩ : ∃ wd, Hid (wd = algW 8) := ⟨_, Lib.hid rfl⟩
 rw [<- hwd.out] at CN ⊢
 clear hc ht
 go_enter Tryz.func203, Tryz.ntmps203
 go_wp2_with (go_at_call 256; (with_reducible refine CN.out.mono ?_); rintro e w1 ⟨rfl, hB⟩)
 go_ret
 exact ⟨rfl, hB⟩
theorem putFirst_w (w : World) (hc : Cl w cb (callC kind h alg n nilS ss b)) :
  Calls Tryz.prog 205 #[.pointer (some ⟨cb, 0, none⟩)] w fun e w' => e = .returned (.string dashS) /\ Below w.heap.size w w' := by
 have c1 : w.cell? ⟨cb, 4, none⟩ = some (.slice none 0 0) := (hc.cell 4).1
 have CP : Hid (∀ W, Calls Tryz.prog 223 #[.slice none 0 0] W fun e w' => e = .returned (.string dashS) /\ W = w') := Lib.hid (put_empty none 0)
 clear hc
 go_enter Tryz.func205, Tryz.ntmps205
 go_wp2_with (go_at_call 223; (with_reducible refine (CP.out _).mono ?_); rintro e w1 ⟨rfl, rfl⟩)
 go_ret
 exact ⟨rfl, bl_refl _⟩
theorem putLast_w (w : World) (hc : Cl w cb (callC kind h alg n ns nilS b)) :
  Calls Tryz.prog 207 #[.pointer (some ⟨cb, 0, none⟩)] w fun e w' => e = .returned (.string dashS) /\ Below w.heap.size w w' := by
 have c1 : w.cell? ⟨cb, 5, none⟩ = some (.slice none 0 0) := (hc.cell 5).1
 have CP : Hid (∀ W, Calls Tryz.prog 223 #[.slice none 0 0] W fun e w' => e = .returned (.string dashS) /\ W = w') := Lib.hid (put_empty none 0)
 clear hc
 go_enter Tryz.func207, Tryz.ntmps207
 go_wp2_with (go_at_call 223; (with_reducible refine (CP.out _).mono ?_); rintro e w1 ⟨rfl, rfl⟩)
 go_ret
 exact ⟨rfl, bl_refl _⟩
theorem putB_dash (w : World) (hc : Cl w cb (callC kind h alg n ns ss nilS)) :
  Calls Tryz.prog 201 #[.pointer (some ⟨cb, 0, none⟩)] w fun e w' => e = .returned (.string dashS) /\ Below w.heap.size w w' := by
 have c1 : w.cell? ⟨cb, 6, none⟩ = some (.slice none 0 0) := (hc.cell 6).1
 have CP : Hid (∀ W, Calls Tryz.prog 223 #[.slice none 0 0] W fun e w' => e = .returned (.string dashS) /\ W = w') := Lib.hid (put_empty none 0)
 clear hc
 go_enter Tryz.func201, Tryz.ntmps201
 go_wp2_with (go_at_call 223; (with_reducible refine (CP.out _).mono ?_); rintro e w1 ⟨rfl, rfl⟩)
 go_ret
 exact ⟨rfl, bl_refl _⟩
theorem putB_abc (p : Option Addr) (c : Nat) (w : World) (hc : Cl w cb (callC kind h alg n ns ss (.slice p 3 c))) (hp : reads w p 3 .u8 (fun j => (abcC j : Int))) :
  Calls Tryz.prog 201 #[.pointer (some ⟨cb, 0, none⟩)] w fun e w' => e = .returned (.string s6) /\ Below w.heap.size w w' := by
 have c1 : w.cell? ⟨cb, 6, none⟩ = some (.slice p 3 c) := (hc.cell 6).1
 have CP : Hid (Calls Tryz.prog 223 #[.slice p 3 c] w fun e w' => e = .returned (.string s6) /\ Below w.heap.size w w') := Lib.hid (put_hex p 3 c (by decide) (by decide) abcC (by decide) w hp)
 clear hc hp
 go_enter Tryz.func201, Tryz.ntmps201
 go_wp2_with (go_at_call 223; (with_reducible refine CP.out.mono ?_); rintro e w1 ⟨rfl, hB⟩)
 go_ret
 exact ⟨rfl, hB⟩
end
end
section
open Go.RowKit Go.Shelf Bt
attribute [local go_sem] lt_s2 lt_s3 lt_s4 lt_s5 lt_s6 lt_s7 lt_s8 lt_s9 lt_s10 lt_s11 lt_s12 hasRow_at hasRow_past
theorem run_store_func {a : Addr} {m : Mode} {f : Fn} {x y : Array Value} {w : World} : (store a (.func f x y) m).run Tryz.prog w = stored Tryz.prog w a (.func f x y) m := run_store Tryz.prog w a _ m rfl
attribute [local go_sem] run_store_func
def fnV (f : Nat) : Value := .func (.func f) #[] #[]
def wordS (k : Nat) : ByteArray := ⟨([[110, 101, 119], [108, 111, 97, 100], [99, 108, 111, 110, 101], [119, 114, 105, 116, 101], [115, 117, 109], [114, 101, 97, 100], [114, 101, 115, 101, 116], [115, 97, 118, 101], [99, 111, 117, 110, 116], [100, 114, 111, 112]].getD k []).toArray⟩
def shC (B : Nat) : Array Value := #[.string (wordS 0), .slice (some ⟨B + 3, 0, none⟩) 3 3, .string (wordS 1), .slice (some ⟨B + 4, 0, none⟩) 1 1, .string (wordS 2), .slice (some ⟨B + 5, 0, none⟩) 1 1, .string (wordS 3), .slice (some ⟨B + 6, 0, none⟩) 2 2, .string (wordS 4), .slice (some ⟨B + 7, 0, none⟩) 2 2, .string (wordS 5), .slice (some ⟨B + 8, 0, none⟩) 2 2, .string (wordS 6), .slice (some ⟨B + 9, 0, none⟩) 1 1, .string (wordS 7), .slice (some ⟨B + 10, 0, none⟩) 1 1, .string (wordS 8), .slice (some ⟨B + 11, 0, none⟩) 3 3, .string (wordS 9), .slice (some ⟨B + 12, 0, none⟩) 1 1]
structure ShM (w : World) (B : Nat) : Prop where
 new : w.heap[B + 3]? = some (.cells #[fnV 202, fnV 203, fnV 204, fnV 205, fnV 206, fnV 207] 230 (0, 0))
 write : w.heap[B + 6]? = some (.cells #[fnV 198, fnV 199, fnV 200, fnV 201] 230 (0, 0))
 sum : w.heap[B + 7]? = some (.cells #[fnV 198, fnV 199, fnV 200, fnV 201] 230 (0, 0))
theorem ShM.below {w w1 : World} {B : Nat} (h : ShM w B) (hb : Below w.heap.size w w1) : ShM w1 B :=
 ⟨(hb.block _ (Array.getElem?_eq_some_iff.1 h.new).1).trans h.new, (hb.block _ (Array.getElem?_eq_some_iff.1 h.write).1).trans h.write, (hb.block _ (Array.getElem?_eq_some_iff.1 h.sum).1).trans h.sum⟩
def storeRow (a : Addr) (vs : List Value) (i : Nat := 0) : Sem Unit := storeCells a vs i
theorem storeRow_is (a : Addr) (vs : List Value) (i : Nat) : storeCells a vs i = storeRow a vs i := by unfold storeRow; rfl
theorem run_storeRow (w : World) (n : Nat) (vs : List Value) (h : hasRow w n vs.length) (h1 : vs.all Value.oneCell' = true) : (storeRow ⟨n, 0, none⟩ vs 0).run Tryz.prog w = .ok () (w.setRow n vs.toArray) := by
 obtain ⟨c, t, hg, hc⟩ := h
 unfold storeRow
 have := run_storeCells_from (P := Tryz.prog) n t vs 0 c w hg (by simp [hc]) (by simpa [List.all_eq_true] using h1)
 rw [this]
 simp [hc]
section
attribute [local go_sem ↓] storeRow_is
attribute [local go_sem] run_storeRow Value.oneCell' setRow_at setRow_past
set_option maxRecDepth 100000 in
set_option maxHeartbeats 4000000 in
theorem shapes_w (w : World) : Calls Tryz.prog 141 #[] w fun e w' => e = .returned (.agg (shC w.heap.size)) /\ Below w.heap.size w w' /\ ShM w' w.heap.size := by
 go_enter Tryz.func141, Tryz.ntmps141
 go_wp2
 refine bodyPost_ret (results_cell_row rfl _ _ w.heap.size 225 (shC w.heap.size) (0, 0) _ rfl ?_ Tryz.underlying225 rfl (by kernel_rfl)) rfl ⟨rfl, ?_, ?_, ?_, ?_⟩
 ·iterate 12 refine heap_past _ _ _ _ (by simp; try omega) ?_
  exact heap_at _ _ _ rfl
 ·iterate 13 refine bl_alloc ?_
  exact bl_refl w
 ·iterate 9 refine heap_past _ _ _ _ (by simp; try omega) ?_
  exact heap_at _ _ _ (by simp)
 ·iterate 6 refine heap_past _ _ _ _ (by simp; try omega) ?_
  exact heap_at _ _ _ (by simp)
 ·iterate 5 refine heap_past _ _ _ _ (by simp; try omega) ?_
  exact heap_at _ _ _ (by simp)
end
end
section
open Go.RowKit Go.Shelf Bt
attribute [local go_sem] lt_s2 lt_s3 lt_s4 lt_s5 lt_s6 hasRow_at hasRow_past run_storeRow Value.oneCell' setRow_at setRow_past
attribute [local go_sem ↓] storeRow_is loadRow_is
def words (l : List ByteArray) : Array Value := (l.map Value.string).toArray
def Wd (w : World) (b : Nat) (l : List ByteArray) : Prop := w.heap[b]? = some (.cells (words l) 9 (0, 0))
theorem Wd.below {w w1 : World} {b : Nat} {l : List ByteArray} (h : Wd w b l) (hb : Below w.heap.size w w1) : Wd w1 b l := (hb.block _ (Array.getElem?_eq_some_iff.1 h).1).trans h
theorem words_w (L : ByteArray) (l : List ByteArray) (hs : L.size < 1000) (h1 : Lib.splitB ⟨#[32]⟩ 0 (Lib.countB L ⟨#[32]⟩) L = l) (h2 : Lib.countB L ⟨#[32]⟩ + 1 = l.length) (w : World) {m : Int} (hm : w.cell? ⟨6, 0, none⟩ = some (.int .i64 m)) :
  Calls Tryz.prog 140 #[.string L] w fun e w' => e = .returned (.slice (some ⟨w.heap.size, 0, none⟩) l.length l.length) /\ w.alloc (.cells (words l) 9) = w' := by
 have CS : Hid (Calls Tryz.prog 197 #[.string L, .string ⟨#[32]⟩] w fun e w' => e = .returned (.slice (some ⟨w.heap.size, 0, none⟩) l.length l.length) /\ w' = w.alloc (.cells (words l) 9)) := Lib.hid (by
  have := Tryz.strings_Split L ⟨#[32]⟩ m w (by omega) hm (by decide)
  rw [h1, h2] at this
  exact this)
 clear hm
 go_enter Tryz.func140, Tryz.ntmps140
 go_wp2_with (go_at_call 197; (with_reducible refine CS.out.mono ?_); rintro e w1 ⟨rfl, rfl⟩)
 go_ret
 exact ⟨rfl, rfl⟩
def zeroCall : Array Value := callC 0 0 0 0 nilS nilS nilS
theorem Cl.load {w : World} {cb : Nat} {kind h alg n : Int} {ns ss b : Value} (hc : Cl w cb (callC kind h alg n ns ss b)) : (loadRow ⟨cb, 0, none⟩ 9).run Tryz.prog w = .ok (callC kind h alg n ns ss b) w := by
 have := run_loadRow Tryz.prog w cb 9 ⟨_, _, hc, rfl⟩
 unfold rowAt at this
 rw [show w.heap[cb]? = _ from hc] at this
 exact this
theorem Cl.row {w : World} {cb : Nat} {c : Array Value} (hc : Cl w cb c) (h9 : c.size = 9) : hasRow w cb 9 := ⟨c, _, hc, h9⟩
theorem results_cell_tmp {fn : Func} {p q : Tmp} {ty : TypeId} (h : fn.results = #[.cell p ty, .tmp q]) (tmps : Array Value) (w : World) (g : Nat) (cs : Array Value)
  (hp : tmps.getD p undef = .pointer (some ⟨g, 0, none⟩)) (hr : (loadVar ty ⟨g, 0, none⟩).run Tryz.prog w = .ok (.agg cs) w) :
  (results fn tmps).run Tryz.prog w = .ok (.tuple #[.agg cs, tmps.getD q undef]) w := by
 have hp' : tmps[p]?.getD undef = .pointer (some ⟨g, 0, none⟩) := by simpa using hp
 simp [results, h, hp', asAddr, hr]
theorem Cl.setRow {w : World} {cb : Nat} {c : Array Value} (h : Cl w cb c) (c' : Array Value) : Cl (w.setRow cb c') cb c' := by
 unfold Cl World.setRow
 dsimp only
 rw [Array.getElem?_modify, if_pos rfl, show w.heap[cb]? = _ from h]
 rfl
theorem owns_row {w : World} {b base : Nat} {e t : TypeId} {k : IntKind} {v : Value} {n : Nat} {f : Nat -> Int} {c : Array Value} {fr : Nat × Nat} (h : owns w base e k v n f) (hb : w.heap[b]? = some (.cells c t fr)) (hne : t ≠ e) (c' : Array Value) : owns (w.setRow b c') base e k v n f := by
 refine World.ownsRow.kept (row := some b) h (gb_row w b c') ?_
 rcases h.2 with ⟨rfl, _⟩ | ⟨g, cap, cur, rfl, _, hg, _⟩
 ·exact .inl rfl
 ·refine .inr (fun e1 => ?_)
  have e2 : some g = some b := e1
  cases e2
  rw [hb] at hg
  cases hg
  exact hne rfl
theorem Cl.var {w : World} {cb : Nat} {c : Array Value} (h : Cl w cb c) (h9 : c.size = 9) : (loadVar 108 ⟨cb, 0, none⟩).run Tryz.prog w = .ok (.agg c) w :=
 run_loadVar_row w cb _ _ c (0, 0) _ h Tryz.underlying108 rfl (by rw [h9]; kernel_rfl)
structure PS (w wi : World) (l : List ByteArray) (sb : Nat) (row : Array Value) : Prop where
 z : Cl wi w.heap.size zeroCall
 wd : Wd wi (w.heap.size + 1) l
 sh : ShM wi (w.heap.size + 2)
 bl : Below w.heap.size w wi
 row : wi.heap[sb]? = some (.cells row 224 (0, 0))
theorem PS.below {w wi w1 : World} {l : List ByteArray} {sb : Nat} {row : Array Value} (h : PS w wi l sb row) (hb : Below wi.heap.size wi w1) : PS w w1 l sb row :=
 ⟨h.z.below hb, h.wd.below hb, h.sh.below hb, bl_call h.bl hb, (hb.block _ (Array.getElem?_eq_some_iff.1 h.row).1).trans h.row⟩
theorem gb_keep {w w1 : World} {b r : Nat} {o : Obj} (hg : w.grownBy w1 (some r)) (hb : w.heap[b]? = some o) (hne : b ≠ r) : w1.heap[b]? = some o :=
 (hg.block _ (Array.getElem?_eq_some_iff.1 hb).1 (fun e => hne (Option.some.inj e))).trans hb
theorem PS.grown {w wi w1 : World} {l : List ByteArray} {sb cb : Nat} {row : Array Value} (h : PS w wi l sb row) (hg : wi.grownBy w1 (some cb)) (h1 : w.heap.size + 9 < cb) (h2 : sb < cb) : PS w w1 l sb row :=
 ⟨gb_keep hg h.z (by omega), gb_keep hg h.wd (by omega), ⟨gb_keep hg h.sh.new (by omega), gb_keep hg h.sh.write (by omega), gb_keep hg h.sh.sum (by omega)⟩, h.bl.trans (below_own hg (by omega) h.bl.size), gb_keep hg h.row (by omega)⟩
def lineA : ByteArray := ⟨#[110, 101, 119, 32, 115, 104, 97, 51, 45, 50, 53, 54, 32, 45, 32, 45]⟩
def wsA : List ByteArray := [wordS 0, algW 8, dashS, dashS]
theorem splitA : Lib.splitB ⟨#[32]⟩ 0 (Lib.countB lineA ⟨#[32]⟩) lineA = wsA := by kernel_rfl
theorem countA : Lib.countB lineA ⟨#[32]⟩ + 1 = wsA.length := by kernel_rfl
def callAtA (q : Nat) (_ : World) (wi : World) (cb : Nat) : Prop := Cl wi cb (callC 1 0 (if q = 0 then 0 else 8) 0 nilS nilS nilS)
theorem ixA0 (B : Nat) (w : World) : (Instr.index 225 (.agg (shC B)) (.int .i64 0)).run Tryz.prog w = .ok (.agg #[.string (wordS 0), .slice (some ⟨B + 3, 0, none⟩) 3 3]) w := by kernel_rfl
theorem eqA0 : ((wordS 0).toList == (wordS 0).toList) = true := by kernel_rfl
set_option maxRecDepth 100000 in
set_option maxHeartbeats 8000000 in
theorem parseA_w (w : World) (ht : TabE w) {m : Int} (hm : w.cell? ⟨6, 0, none⟩ = some (.int .i64 m)) : Calls Tryz.prog 95 #[.string lineA] w fun e w' => e = .returned (.tuple #[.agg (callC 1 0 8 0 nilS nilS nilS), .int .i64 0]) /\ Below w.heap.size w w' := by
 have HT : Hid (∀ {w' : World}, Below w.heap.size w w' -> TabE w') := Lib.hid fun hB => ht.grown (gb_below (r := none) hB) (by simp)
 have hml := cell_lt hm
 have CW : Hid (∀ W : World, W.cell? ⟨6, 0, none⟩ = some (.int .i64 m) -> Calls Tryz.prog 140 #[.string lineA] W fun e w' => e = .returned (.slice (some ⟨W.heap.size, 0, none⟩) 4 4) /\ W.alloc (.cells (words wsA) 9) = w') := Lib.hid fun W h => words_w lineA wsA (by decide) splitA countA W h
 have CH : Hid (∀ W : World, Calls Tryz.prog 141 #[] W fun e w' => e = .returned (.agg (shC W.heap.size)) /\ Below W.heap.size W w' /\ ShM w' W.heap.size) := Lib.hid shapes_w
 obtain ⟨L, hL⟩ : ∃ L, Hid (L = lineA) := ⟨_, Lib.hid rfl⟩
 rw [<- hL.out] at CW ⊢
 clear ht
 go_enter Tryz.func95, Tryz.ntmps95
 go_wp2_with (first | (go_at_call 140; refine (CW.out _ ?hmm).mono ?_; (case hmm => rw [cell_past hml]; exact hm); rintro e w1 ⟨rfl, rfl⟩) | (go_at_call 141; (with_reducible refine (CH.out _).mono ?_); rintro e w2 ⟨rfl, hB2, hM2⟩; have P2 := Lib.hid (And.intro hB2 hM2); clear hB2 hM2))
 have W2 : Hid (Cl w2 w.heap.size zeroCall /\ Wd w2 (w.heap.size + 1) wsA /\ ShM w2 (w.heap.size + 2) /\ Below w.heap.size w w2) := Lib.hid ⟨(P2.out.1.block _ (by simp; omega)).trans (heap_past _ _ _ _ (by simp) (heap_at _ _ _ rfl)), (P2.out.1.block _ (by simp)).trans (heap_at _ _ _ (by simp)), by have := P2.out.2; simpa using this, bl_call (bl_alloc (bl_alloc (bl_refl w))) P2.out.1⟩
 clear hm hml P2
 go_loopw [13] (fun i wr => ∃ k : Nat, k <= 0 /\ i = .int .i64 k /\ Hid (Cl wr w.heap.size zeroCall /\ Wd wr (w.heap.size + 1) wsA /\ ShM wr (w.heap.size + 2) /\ Below w.heap.size w wr)) (fun i _ => 1 - (intOf i).toNat)
 case atStart => exact ⟨0, by omega, rfl, W2⟩
 case round =>
  clear W2
  obtain ⟨k, hk, rfl, HI⟩ := hrel
  have hl1 := HI.out.2.1
  have x0 : wr.cell? ⟨w.heap.size + 1, 0, none⟩ = some (.string (wordS 0)) := cell_of_row wr (w.heap.size + 1) 0 _ _ _ hl1
  have l0 := cell_lt x0
  have l1 : w.heap.size + 1 < wr.heap.size + 1 := by omega
  clear hl1
  obtain rfl : k = 0 := by omega
  ·have hix := ixA0 (w.heap.size + 2)
   have heq := eqA0
   go_wp2
   obtain ⟨W1, hW1⟩ : ∃ W1, Hid ((wr.alloc (.cells #[.string (wordS 0), .slice (some ⟨w.heap.size + 2 + 3, 0, none⟩) 3 3] 224)).drew = W1) := ⟨_, Lib.hid rfl⟩
   have hB1 : Below wr.heap.size wr W1 := by rw [<- hW1.out]; exact bl_drew (bl_alloc (bl_refl wr))
   have A1 : W1.heap[wr.heap.size]? = some (.cells #[.string (wordS 0), .slice (some ⟨w.heap.size + 2 + 3, 0, none⟩) 3 3] 224 (0, 0)) := by rw [<- hW1.out]; exact heap_at _ _ _ rfl
   have y0 := cell_of_row W1 wr.heap.size 0 _ _ _ A1
   have y1 := cell_of_row W1 wr.heap.size 1 _ _ _ A1
   have x1 := (hB1.cell (p := ⟨w.heap.size + 1, 0, none⟩) l0).trans x0
   have H1 : Hid (PS w W1 wsA wr.heap.size #[.string (wordS 0), .slice (some ⟨w.heap.size + 2 + 3, 0, none⟩) 3 3]) := Lib.hid ⟨HI.out.1.below hB1, HI.out.2.1.below hB1, HI.out.2.2.1.below hB1, bl_call HI.out.2.2.2 hB1, A1⟩
   obtain ⟨sb, hsb⟩ : ∃ sb, Hid (sb = wr.heap.size) := ⟨_, Lib.hid rfl⟩
   refine region_still (by kernel_rfl) (by kernel_rfl) hW1.out ?_
   rw [<- hsb.out] at y0 y1 H1 ⊢
   clear A1 hB1 hW1 x0 l0 l1 HI
   iterate 6 still_step
   refine wpStill_nil ?_
   have l1 := cell_lt y0
   go_wp2
   obtain ⟨cb, hcb⟩ : ∃ cb, Hid (cb = W1.heap.size) := ⟨_, Lib.hid rfl⟩
   have hc1 : w.heap.size + 9 < cb := by rw [hcb.out]; exact (Array.getElem?_eq_some_iff.1 H1.out.sh.sum).1
   have hc2 : sb < cb := by rw [hcb.out]; exact l1
   obtain ⟨W2, hW2⟩ : ∃ W2, Hid (W1.alloc (.cells (callC 1 0 0 0 nilS nilS nilS) 108) = W2) := ⟨_, Lib.hid rfl⟩
   have H2 : Hid (PS w W2 wsA sb #[.string (wordS 0), .slice (some ⟨w.heap.size + 2 + 3, 0, none⟩) 3 3] /\ callAtA 0 w W2 cb) := Lib.hid (by
    rw [<- hW2.out, hcb.out]
    exact ⟨H1.out.below (bl_alloc (bl_refl W1)), heap_at _ _ _ rfl⟩)
   change Code.wp _ _ _ _ (W1.alloc (.cells (callC 1 0 0 0 nilS nilS nilS) 108))
   rw [hW2.out, <- hcb.out]
   clear hW2 hcb H1 y0 y1 x1 l1 hsb
   go_loopw [8, 9] (fun ok j wr => ∃ q : Nat, q <= 3 /\ ok = .bool true /\ j = .int .i64 q /\ Hid (PS w wr wsA sb #[.string (wordS 0), .slice (some ⟨w.heap.size + 2 + 3, 0, none⟩) 3 3] /\ callAtA q w wr cb)) (fun ok j _ => 4 - (intOf j).toNat)
   case atStart => exact ⟨0, by omega, rfl, rfl, H2⟩
   case round =>
    clear H2
    obtain ⟨q, hq, rfl, rfl, HQ⟩ := hrel
    have s1 := cell_of_row wr sb 1 _ _ _ HQ.out.1.row
    obtain rfl | rfl | rfl | rfl : q = 0 \/ q = 1 \/ q = 2 \/ q = 3 := by omega
    ·have g0 : wr.cell? ⟨w.heap.size + 2 + 3, 0, none⟩ = some (fnV 202) := cell_of_row wr (w.heap.size + 2 + 3) 0 _ _ _ HQ.out.1.sh.new
     have v0 := cell_of_row wr (w.heap.size + 1) 1 _ _ _ HQ.out.1.wd
     obtain ⟨W3, hW3⟩ : ∃ W3, Hid (wr.drew = W3) := ⟨_, Lib.hid rfl⟩
     have H3 : Hid (PS w W3 wsA sb #[.string (wordS 0), .slice (some ⟨w.heap.size + 2 + 3, 0, none⟩) 3 3] /\ callAtA 0 w W3 cb) := by rw [<- hW3.out]; exact Lib.hid ⟨HQ.out.1.below (bl_drew (bl_refl _)), HQ.out.2⟩
     have hwr : IntKind.i64.wrap 1 = 1 := rfl
     have s3 : W3.cell? ⟨sb, 1, none⟩ = some (.slice (some ⟨w.heap.size + 2 + 3, 0, none⟩) 3 3) := by rw [<- hW3.out]; exact s1
     have g3 : W3.cell? ⟨w.heap.size + 2 + 3, 0, none⟩ = some (fnV 202) := by rw [<- hW3.out]; exact g0
     have v3 : W3.cell? ⟨w.heap.size + 1, 1, none⟩ = some (.string (algW 8)) := by rw [<- hW3.out]; exact v0
     obtain ⟨wq, hwq⟩ : ∃ wq, Hid (wq = algW 8) := ⟨_, Lib.hid rfl⟩
     rw [<- hwq.out] at v3
     unfold fnV at g3
     go_wp2
     refine region_tail 11 (by kernel_rfl) (by kernel_rfl) hW3.out ?_
     clear hW3 g0 v0 s1 HQ
     simp only [List.take_succ_cons, List.take_zero, List.drop_succ_cons, List.drop_zero]
     iterate 11 still_step
     refine wpStill_nil ?_
     go_wp2_with (go_at_call 202; rw [hwq.out]; (refine (getAlg_w W3 H3.out.2 (HT.out H3.out.1.bl)).mono ?_); rintro e w5 ⟨rfl, c5, g5⟩; have Q5 : Hid (W3.grownBy w5 (some cb) /\ callAtA 1 w w5 cb) := Lib.hid ⟨g5, c5⟩; clear c5 g5)
     go_roundw
     case rel => exact ⟨1, by omega, rfl, by go_num, Lib.hid ⟨H3.out.1.grown Q5.out.1 hc1 hc2, Q5.out.2⟩⟩
     case measure => simp [intOf]
    ·have g0 : wr.cell? ⟨w.heap.size + 2 + 3, 2, none⟩ = some (fnV 204) := cell_of_row wr (w.heap.size + 2 + 3) 2 _ _ _ HQ.out.1.sh.new
     have v0 := cell_of_row wr (w.heap.size + 1) 2 _ _ _ HQ.out.1.wd
     obtain ⟨W3, hW3⟩ : ∃ W3, Hid (wr.drew = W3) := ⟨_, Lib.hid rfl⟩
     have H3 : Hid (PS w W3 wsA sb #[.string (wordS 0), .slice (some ⟨w.heap.size + 2 + 3, 0, none⟩) 3 3] /\ callAtA 1 w W3 cb) := by rw [<- hW3.out]; exact Lib.hid ⟨HQ.out.1.below (bl_drew (bl_refl _)), HQ.out.2⟩
     have hwr : IntKind.i64.wrap 2 = 2 := rfl
     have s3 : W3.cell? ⟨sb, 1, none⟩ = some (.slice (some ⟨w.heap.size + 2 + 3, 0, none⟩) 3 3) := by rw [<- hW3.out]; exact s1
     have g3 : W3.cell? ⟨w.heap.size + 2 + 3, 2, none⟩ = some (fnV 204) := by rw [<- hW3.out]; exact g0
     have v3 : W3.cell? ⟨w.heap.size + 1, 2, none⟩ = some (.string (dashS)) := by rw [<- hW3.out]; exact v0
     obtain ⟨wq, hwq⟩ : ∃ wq, Hid (wq = dashS) := ⟨_, Lib.hid rfl⟩
     rw [<- hwq.out] at v3
     unfold fnV at g3
     go_wp2
     refine region_tail 11 (by kernel_rfl) (by kernel_rfl) hW3.out ?_
     clear hW3 g0 v0 s1 HQ
     simp only [List.take_succ_cons, List.take_zero, List.drop_succ_cons, List.drop_zero]
     iterate 11 still_step
     refine wpStill_nil ?_
     go_wp2_with (go_at_call 204; rw [hwq.out]; (refine (getFirst_w W3 H3.out.2).mono ?_); rintro e w5 ⟨rfl, c5, g5⟩; have Q5 : Hid (W3.grownBy w5 (some cb) /\ callAtA 2 w w5 cb) := Lib.hid ⟨g5, c5⟩; clear c5 g5)
     go_roundw
     case rel => exact ⟨2, by omega, rfl, by go_num, Lib.hid ⟨H3.out.1.grown Q5.out.1 hc1 hc2, Q5.out.2⟩⟩
     case measure => simp [intOf]
    ·have g0 : wr.cell? ⟨w.heap.size + 2 + 3, 4, none⟩ = some (fnV 206) := cell_of_row wr (w.heap.size + 2 + 3) 4 _ _ _ HQ.out.1.sh.new
     have v0 := cell_of_row wr (w.heap.size + 1) 3 _ _ _ HQ.out.1.wd
     obtain ⟨W3, hW3⟩ : ∃ W3, Hid (wr.drew = W3) := ⟨_, Lib.hid rfl⟩
     have H3 : Hid (PS w W3 wsA sb #[.string (wordS 0), .slice (some ⟨w.heap.size + 2 + 3, 0, none⟩) 3 3] /\ callAtA 2 w W3 cb) := by rw [<- hW3.out]; exact Lib.hid ⟨HQ.out.1.below (bl_drew (bl_refl _)), HQ.out.2⟩
     have hwr : IntKind.i64.wrap 3 = 3 := rfl
     have s3 : W3.cell? ⟨sb, 1, none⟩ = some (.slice (some ⟨w.heap.size + 2 + 3, 0, none⟩) 3 3) := by rw [<- hW3.out]; exact s1
     have g3 : W3.cell? ⟨w.heap.size + 2 + 3, 4, none⟩ = some (fnV 206) := by rw [<- hW3.out]; exact g0
     have v3 : W3.cell? ⟨w.heap.size + 1, 3, none⟩ = some (.string (dashS)) := by rw [<- hW3.out]; exact v0
     obtain ⟨wq, hwq⟩ : ∃ wq, Hid (wq = dashS) := ⟨_, Lib.hid rfl⟩
     rw [<- hwq.out] at v3
     unfold fnV at g3
     go_wp2
     refine region_tail 11 (by kernel_rfl) (by kernel_rfl) hW3.out ?_
     clear hW3 g0 v0 s1 HQ
     simp only [List.take_succ_cons, List.take_zero, List.drop_succ_cons, List.drop_zero]
     iterate 11 still_step
     refine wpStill_nil ?_
     go_wp2_with (go_at_call 206; rw [hwq.out]; (refine (getLast_w W3 H3.out.2).mono ?_); rintro e w5 ⟨rfl, c5, g5⟩; have Q5 : Hid (W3.grownBy w5 (some cb) /\ callAtA 3 w w5 cb) := Lib.hid ⟨g5, c5⟩; clear c5 g5)
     go_roundw
     case rel => exact ⟨3, by omega, rfl, by go_num, Lib.hid ⟨H3.out.1.grown Q5.out.1 hc1 hc2, Q5.out.2⟩⟩
     case measure => simp [intOf]
    ·have hz : hasRow wr w.heap.size 9 := HQ.out.1.z.row rfl
     have hcl : Cl wr cb (callC 1 0 8 0 nilS nilS nilS) := HQ.out.2
     have hld : (loadRow ⟨cb, 0, none⟩ 9).run Tryz.prog wr = .ok (callC 1 0 8 0 nilS nilS nilS) wr := hcl.load
     unfold callC callL nilS at hld
     clear hcl
     go_wp2
     have hC2 : Cl (wr.setRow w.heap.size (callC 1 0 8 0 nilS nilS nilS)) w.heap.size (callC 1 0 8 0 nilS nilS nilS) := HQ.out.1.z.setRow _
     have hB2 : Below w.heap.size w (wr.setRow w.heap.size (callC 1 0 8 0 nilS nilS nilS)) := HQ.out.1.bl.trans (below_own (gb_row wr w.heap.size _) (Nat.le_refl _) HQ.out.1.bl.size)
     exact bodyPost_ret (results_cell_tmp rfl _ _ w.heap.size (callC 1 0 8 0 nilS nilS nilS) rfl (hC2.var rfl)) rfl ⟨rfl, hB2⟩
end
end Go.Proofs.YtdobjciaikofdaaGreatDoor
