/- Part 33 of 39 of what the proof of this law needs. Put together by a program out of the texts: HqA HqB HqC Hr. -/
import Derived.Test.YtdobjciaikofdaaGreatDoorTopShakeAll32
import Derived.Test.YtdobjciaikofdaaGreatDoorTopShakeAll11
namespace Go.Proofs.YtdobjciaikofdaaGreatDoor
section
open Go.RowKit Go.Shelf Bt
attribute [local go_sem] lt_s2 lt_s3 lt_s4 lt_s5 lt_s6 hasRow_at hasRow_past run_storeRow Value.oneCell' setRow_at setRow_past run_store_func
attribute [local go_sem ↓] storeRow_is loadRow_is
theorem pix0 (B : Nat) (w : World) : (Instr.index 225 (.agg (shC B)) (.int .i64 0)).run Tryz.prog w = .ok (.agg #[.string (wordS 0), .slice (some ⟨B + 3, 0, none⟩) 3 3]) w := by kernel_rfl
theorem pix3 (B : Nat) (w : World) : (Instr.index 225 (.agg (shC B)) (.int .i64 3)).run Tryz.prog w = .ok (.agg #[.string (wordS 3), .slice (some ⟨B + 6, 0, none⟩) 2 2]) w := by kernel_rfl
theorem pix4 (B : Nat) (w : World) : (Instr.index 225 (.agg (shC B)) (.int .i64 4)).run Tryz.prog w = .ok (.agg #[.string (wordS 4), .slice (some ⟨B + 7, 0, none⟩) 2 2]) w := by kernel_rfl
theorem wp_meet {c : Code} {Q : Exit -> Act -> World -> Prop} {a : Act} {w : World} {A : Act} (P : World -> Prop) (h1 : ∀ K : Act -> World -> Prop, Hid (∀ w', P w' -> K A w') -> c.wp Tryz.prog (Exit.then K (fun _ _ _ => False)) a w) (h2 : ∀ w', P w' -> Q .normal A w') : c.wp Tryz.prog Q a w :=
 Go.wp_mono (h1 (fun a' w' => Q .normal a' w') (Lib.hid h2)) fun e a' w' h => by
  cases e <;> first | exact h | exact h.elim
theorem wp_meet2 {c : Code} {Q : Exit -> Act -> World -> Prop} {a : Act} {w : World} (A : Nat -> Nat -> Act) (P : Nat -> Nat -> World -> Prop) (h1 : ∀ K : Act -> World -> Prop, Hid (∀ x y w', P x y w' -> K (A x y) w') -> c.wp Tryz.prog (Exit.then K (fun _ _ _ => False)) a w) (h2 : ∀ x y w', P x y w' -> Q .normal (A x y) w') : c.wp Tryz.prog Q a w :=
 Go.wp_mono (h1 (fun a' w' => Q .normal a' w') (Lib.hid h2)) fun e a' w' h => by
  cases e <;> first | exact h | exact h.elim
structure PP (w wi : World) (c : Array Value) (B sb : Nat) (row : Array Value) : Prop where
 cl : Cl wi w.heap.size c
 sh : ShM wi B
 bl : Below w.heap.size w wi
 row : wi.heap[sb]? = some (.cells row 224 (0, 0))
theorem PP.below {w wi w1 : World} {c : Array Value} {B sb : Nat} {row : Array Value} (h : PP w wi c B sb row) (hb : Below wi.heap.size wi w1) : PP w w1 c B sb row :=
 ⟨h.cl.below hb, h.sh.below hb, bl_call h.bl hb, (hb.block _ (Array.getElem?_eq_some_iff.1 h.row).1).trans h.row⟩
theorem PP.fst {w w2 w3 : World} {c : Array Value} (h2 : Cl w2 w.heap.size c /\ Below w.heap.size w w2) (hb : Below w2.heap.size w2 w3) (hm : ShM w3 w2.heap.size) (row : Array Value) : PP w (w3.alloc (.cells row 224)) c w2.heap.size w3.heap.size row :=
 ⟨(h2.1.below hb).below (bl_alloc (bl_refl _)), hm.below (bl_alloc (bl_refl _)), bl_alloc (bl_call h2.2 hb), heap_at _ _ _ rfl⟩
theorem PP.zero2 {w2 w3 : World} {u v : Value} (hb : Below (w2.alloc (.cells #[u, v] 224)).drew.heap.size (w2.alloc (.cells #[u, v] 224)).drew w3) : hasRow w3 w2.heap.size 2 :=
 ⟨#[u, v], 224, (hb.block w2.heap.size (by show w2.heap.size < (w2.alloc _).heap.size; simp)).trans (heap_at _ _ _ rfl), rfl⟩
theorem PP.kind2 {w w2 w3 : World} {c : Array Value} {a : Value} {o : Obj} (h2 : Cl w2 w.heap.size c /\ Below w.heap.size w w2) (hb : Below (w2.alloc o).drew.heap.size (w2.alloc o).drew w3) (h : c[0]? = some a) : w3.cell? ⟨w.heap.size, 0, none⟩ = some a :=
 ((h2.1.below (bl_call (bl_drew (bl_alloc (bl_refl w2))) hb)).cell 0).1.trans h
theorem PP.both2 {w2 w3 : World} {o : Obj} (hb : Below (w2.alloc o).drew.heap.size (w2.alloc o).drew w3) (hm : ShM w3 (w2.alloc o).drew.heap.size) : Below (w2.heap.size + 1) (w2.alloc o).drew w3 /\ ShM w3 (w2.heap.size + 1) := by
 have e : (w2.alloc o).drew.heap.size = w2.heap.size + 1 := by show (w2.alloc o).heap.size = _; simp
 rw [e] at hb hm
 exact ⟨hb, hm⟩
theorem PP.snd {w w2 w3 : World} {c row0 : Array Value} (h2 : Cl w2 w.heap.size c /\ Below w.heap.size w w2) (hb : Below (w2.heap.size + 1) (w2.alloc (.cells row0 224)).drew w3) (hm : ShM w3 (w2.heap.size + 1)) (row : Array Value) : PP w (w3.setRow w2.heap.size row) c (w2.heap.size + 1) w2.heap.size row := by
 have hbl : Below w2.heap.size w2 (w2.alloc (.cells row0 224)).drew := bl_drew (bl_alloc (bl_refl w2))
 have hb2 : Below w2.heap.size w2 w3 := hbl.trans (hb.mono (by omega))
 have c3 := h2.1.below hb2
 have hlt := h2.1.lt
 have hg := gb_row w3 w2.heap.size row
 refine ⟨gb_keep hg c3 (by omega), ⟨gb_keep hg hm.new (by omega), gb_keep hg hm.write (by omega), gb_keep hg hm.sum (by omega)⟩, (bl_call h2.2 hb2).trans (below_own hg (by omega) (by have := hb2.size; omega)), ?_⟩
 have h3 : w3.heap[w2.heap.size]? = some (.cells row0 224 (0, 0)) := (hb.block _ (by omega)).trans (heap_at _ _ _ rfl)
 unfold World.setRow
 dsimp only
 rw [Array.getElem?_modify, if_pos rfl, h3]
 rfl
theorem run_row2 (w : World) (b i : Nat) (u v : Value) (h0 : w.cell? ⟨b, i, none⟩ = some u) (h1 : w.cell? ⟨b, i + 1, none⟩ = some v) : (loadRow ⟨b, i, none⟩ 2).run Tryz.prog w = .ok #[u, v] w := by
 unfold loadRow
 exact run_loadCells_list (P := Tryz.prog) w ⟨b, i, none⟩ [u, v] (fun j x hj => by
  rw [Addr.add_lit]
  match j, hj with
  | 0, hj => exact h0.trans (by simpa using hj)
  | 1, hj => exact h1.trans (by simpa using hj))
theorem ownsRow_slice {w : World} {base : Nat} {t : TypeId} {m : Nat} {v : Value} {n : Nat} {xs : List Value} (h : w.ownsRow base t m v n xs) : ∃ a c, v = .slice a n c := by
 rcases h.2 with ⟨rfl, rfl⟩ | ⟨g, cap, cur, rfl, _⟩
 ·exact ⟨_, _, rfl⟩
 ·exact ⟨_, _, rfl⟩
theorem abcR (j : Nat) : 0 <= ((abcC j : Nat) : Int) /\ ((abcC j : Nat) : Int) < 256 := by
 have : abcC j < 256 := by unfold abcC; rcases j with _ | _ | _ | j <;> simp [List.getD]
 omega
theorem one_str (w : World) {base : Nat} {s : ByteArray} (h : base <= w.heap.size) : (w.alloc (.cells #[.string s] 9)).ownsRow base 9 1 (.slice (some ⟨w.heap.size, 0, none⟩) 1 1) 1 [.string s] :=
 ⟨rfl, .inr ⟨w.heap.size, 1, #[.string s], rfl, h, heap_at _ _ _ rfl, Nat.le_refl _, by decide, rfl, rfl⟩⟩
theorem PPx {w wr : World} {c : Array Value} {B sb : Nat} {row : Array Value} {v : Value} {n : Nat} {xs : List Value} (h : Hid (PP w wr c B sb row /\ wr.ownsRow w.heap.size 9 1 v n xs)) (o : Obj) : Hid (PP w (wr.alloc o) c B sb row /\ (wr.alloc o).ownsRow w.heap.size 9 1 v n xs) := Lib.hid ⟨h.out.1.below (bl_alloc (bl_refl wr)), h.out.2.alloc _⟩
theorem PPb {w wr w1 : World} {c : Array Value} {B sb : Nat} {row : Array Value} {v : Value} {n : Nat} {xs : List Value} (h : Hid (PP w wr c B sb row /\ wr.ownsRow w.heap.size 9 1 v n xs)) (hb : Below wr.heap.size wr w1) : Hid (PP w w1 c B sb row /\ w1.ownsRow w.heap.size 9 1 v n xs) := Lib.hid ⟨h.out.1.below hb, by
 refine World.ownsRow.kept (row := none) h.out.2 (gb_below hb) ?_
 rcases h.out.2.2 with ⟨rfl, _⟩ | ⟨g, cap, cur, rfl, _⟩
 ·exact .inl rfl
 ·exact .inr (fun e => by cases e)⟩
theorem strs_keep {w w1 : World} {base b : Nat} {v : Value} {n : Nat} {xs : List Value} {c : Array Value} {t : TypeId} {fr : Nat × Nat} (ho : w.ownsRow base 9 1 v n xs) (hb : w.heap[b]? = some (.cells c t fr)) (hne : t ≠ 9) (hg : w.grownBy w1 v.ownBlock) : w1.heap[b]? = some (.cells c t fr) := by
 rw [hg.block b (Array.getElem?_eq_some_iff.1 hb).1 ?_]
 ·exact hb
 ·intro e1
  rcases ho.2 with ⟨rfl, _⟩ | ⟨g, cap, cur, rfl, _, hgg, _⟩
  ·cases e1
  ·have e2 : some b = some g := e1
   cases e2
   rw [hb] at hgg
   cases hgg
   exact hne rfl
theorem PPs {w wr w1 : World} {c : Array Value} {B sb : Nat} {row : Array Value} {v v' : Value} {n n' : Nat} {xs xs' : List Value} {o : Obj} (h : Hid (PP w wr c B sb row /\ wr.ownsRow w.heap.size 9 1 v n xs)) (ho : w1.ownsRow w.heap.size 9 1 v' n' xs') (hg : (wr.alloc o).grownBy w1 v.ownBlock) (hb : Below w.heap.size wr w1) : Hid (PP w w1 c B sb row /\ w1.ownsRow w.heap.size 9 1 v' n' xs') := by
 have hk := h.out.1.below (bl_alloc (o := o) (bl_refl wr))
 have hw := h.out.2.alloc o
 exact Lib.hid ⟨⟨strs_keep hw hk.cl (by decide) hg, ⟨strs_keep hw hk.sh.new (by decide) hg, strs_keep hw hk.sh.write (by decide) hg, strs_keep hw hk.sh.sum (by decide) hg⟩, h.out.1.bl.trans hb, strs_keep hw hk.row (by decide) hg⟩, ho⟩
theorem joinG (ws : List ByteArray) (line : ByteArray) (hj : (⟨(Lib.join (ws.map (·.data.toList)) (⟨#[32]⟩ : ByteArray).data.toList).toArray⟩ : ByteArray) = line) {n : Nat} (hn : ws.length = n) (hs : 0 < n /\ n <= 10 /\ (Lib.join (ws.map (·.data.toList)) (⟨#[32]⟩ : ByteArray).data.toList).length <= 1000) {w : World} {base : Nat} {al : Option Addr} {c : Nat} (ho : w.ownsRow base 9 1 (.slice al n c) n (ws.map Value.string)) : Calls Tryz.prog 97 #[.slice al n c, .string ⟨#[32]⟩] w fun e w' => e = .returned (.string line) /\ Below w.heap.size w w' := by
 subst hj hn
 rcases ho.2 with ⟨_, h0⟩ | ⟨g, cap, cur, hv, _, hg, hc, _⟩
 ·omega
 ·cases hv
  refine Tryz.strings_Join g 0 c ws ⟨#[32]⟩ w (fun j x hx => ?_) (Array.getElem?_eq_some_iff.1 hg).1 (by omega) hc (by omega)
  have hjl := (List.getElem?_eq_some_iff.1 hx).1
  rw [Nat.zero_add, ho.cellAt j (by omega), List.getElem?_map, hx]
  rfl
theorem joinA : (⟨(Lib.join (wsA.map (·.data.toList)) (⟨#[32]⟩ : ByteArray).data.toList).toArray⟩ : ByteArray) = lineA := by kernel_rfl
set_option maxRecDepth 100000 in
set_option maxHeartbeats 8000000 in
theorem printA_w (w : World) (ht : TabE w) {m : Int} (hm : w.cell? ⟨6, 0, none⟩ = some (.int .i64 m)) : Calls Tryz.prog 100 #[.agg (callC 1 0 8 0 nilS nilS nilS)] w fun e w' => e = .returned (.tuple #[.string lineA, .int .i64 0]) /\ Below w.heap.size w w' := by
 have HT : Hid (∀ {w' : World}, Below w.heap.size w w' -> TabE w' /\ w'.cell? ⟨6, 0, none⟩ = some (.int .i64 m)) := Lib.hid fun hB => ⟨ht.grown (gb_below (r := none) hB) (by simp), (hB.cell (p := ⟨6, 0, none⟩) (cell_lt hm)).trans hm⟩
 have CH : Hid (∀ W : World, Calls Tryz.prog 141 #[] W fun e w' => e = .returned (.agg (shC W.heap.size)) /\ Below W.heap.size W w' /\ ShM w' W.heap.size) := Lib.hid shapes_w
 have A0 : Cl (w.alloc (.cells (callC 1 0 8 0 nilS nilS nilS) 108)) w.heap.size (callC 1 0 8 0 nilS nilS nilS) := heap_at _ _ _ rfl
 have B0 : Below w.heap.size w (w.alloc (.cells (callC 1 0 8 0 nilS nilS nilS) 108)) := bl_alloc (bl_refl w)
 clear ht hm
 go_enter Tryz.func100, Tryz.ntmps100
 simp only [callC, callL]
 go_wp2
 change Code.wp _ _ _ _ (w.alloc (.cells (callC 1 0 8 0 nilS nilS nilS) 108))
 obtain ⟨W1, hW1⟩ : ∃ W1, Hid (w.alloc (.cells (callC 1 0 8 0 nilS nilS nilS) 108) = W1) := ⟨_, Lib.hid rfl⟩
 rw [hW1.out] at A0 B0 ⊢
 have a0 : W1.cell? ⟨w.heap.size, 0, none⟩ = some (.int .i64 1) := (A0.cell 0).1
 have a1 : W1.cell? ⟨w.heap.size, 1, none⟩ = some (.int .i64 0) := (A0.cell 1).1
 have a3 : W1.cell? ⟨w.heap.size, 3, none⟩ = some (.int .i64 0) := (A0.cell 3).1
 have H1 := Lib.hid (And.intro A0 B0)
 clear A0 B0 hW1
 apply wp_meet (fun w2 => Cl w2 w.heap.size (callC 1 0 8 0 nilS nilS nilS) /\ Below w.heap.size w w2)
 case h1 =>
  intro K hK
  go_region_with (go_at_call 141; (with_reducible refine (CH.out _).mono ?_); rintro e w2 ⟨rfl, hB2, hM2⟩; have A2 := H1.out.1.below (bl_call (bl_drew (bl_refl W1)) hB2); have b0 : w2.cell? ⟨w.heap.size, 0, none⟩ = some (.int .i64 1) := (A2.cell 0).1; have b1 : w2.cell? ⟨w.heap.size, 1, none⟩ = some (.int .i64 0) := (A2.cell 1).1; have b3 : w2.cell? ⟨w.heap.size, 3, none⟩ = some (.int .i64 0) := (A2.cell 3).1; have H2 := Lib.hid (And.intro A2 (bl_call H1.out.2 (bl_call (bl_drew (bl_refl W1)) hB2))); clear hB2 hM2 A2)
  all_goals exact hK.out _ H2.out
 intro W2 H2
 simp only [Act.put, List.getElem_toArray, List.getElem_cons_succ, List.getElem_cons_zero, List.setIfInBounds_toArray, List.set_cons_succ, List.set_cons_zero]
 have c0 : W2.cell? ⟨w.heap.size, 0, none⟩ = some (.int .i64 1) := (H2.1.cell 0).1
 have H2 := Lib.hid H2
 clear a0 a1 a3 H1
 go_wp2
 have hmul : IntKind.i64.wrap 0 = 0 := rfl
 have hixk := pix0
 have hlw2 : w.heap.size < W2.heap.size := cell_lt c0
 refine wp_meet2 (fun B sb => ⟨#[.agg (callC 1 0 8 0 nilS nilS nilS), .pointer (some ⟨w.heap.size, 0, none⟩), .string ⟨#[]⟩, .int .i64 0, .pointer (some ⟨sb, 0, none⟩), undef, undef, undef, undef, undef, undef, .pointer (some ⟨w.heap.size, 0, none⟩), .int .i64 1, .bool false, .bool false, .pointer (some ⟨w.heap.size, 0, none⟩), .int .i64 1, .agg (shC W1.heap.size), .int .i64 10, .bool false, .bool false, .bool false, .pointer (some ⟨w.heap.size, 1, none⟩), .int .i64 0, .bool false, .bool false, .bool false, .pointer (some ⟨w.heap.size, 3, none⟩), .int .i64 0, .bool false, .bool false, .agg (shC B), .pointer (some ⟨w.heap.size, 0, none⟩), .int .i64 1, .int .i64 0, .agg #[.string (wordS 0), .slice (some ⟨B + 3, 0, none⟩) 3 3], undef, undef, undef, undef, undef, undef, undef, undef, undef, undef, undef, undef, undef, undef, undef, undef, undef, undef, undef, undef, undef, undef, undef, undef, undef, undef, undef, undef, undef, undef, undef, undef, undef], []⟩)
  (fun B sb w3 => PP w w3 (callC 1 0 8 0 nilS nilS nilS) B sb #[.string (wordS 0), .slice (some ⟨B + 3, 0, none⟩) 3 3]) (fun K hK => ?_) ?_
 ·go_region_with (first | (go_at_call 141; (with_reducible refine (CH.out W2.drew).mono ?_); rintro e w3 ⟨rfl, hB3, hM3⟩; have hB4 := bl_call (bl_drew (bl_refl W2)) hB3; have b0 : w3.cell? ⟨w.heap.size, 0, none⟩ = some (.int .i64 1) := ((H2.out.1.below hB4).cell 0).1; have hlw : w.heap.size < w3.heap.size := cell_lt b0; have H3 := Lib.hid (And.intro hB4 hM3); clear hB3 hM3 hB4) | (go_at_call 141; (with_reducible refine (CH.out (W2.alloc (.cells #[.string ⟨#[]⟩, .slice none 0 0] 224)).drew).mono ?_); rintro e w3 ⟨rfl, hB3, hM3⟩; have hr3 := PP.zero2 hB3; have b0 := PP.kind2 (a := .int .i64 1) H2.out hB3 rfl; have H3 := Lib.hid (PP.both2 hB3 hM3); clear hB3 hM3))
  all_goals first
   | exact hK.out W2.heap.size w3.heap.size _ (PP.fst H2.out H3.out.1 H3.out.2 _)
   | exact hK.out (W2.heap.size + 1) W2.heap.size _ (PP.snd H2.out H3.out.1 H3.out.2 _)
 intro B sb W3 H3
 have s0 := cell_of_row W3 sb 0 _ _ _ H3.row
 have s1 := cell_of_row W3 sb 1 _ _ _ H3.row
 have l0 := cell_lt s0
 have H3 := Lib.hid H3
 clear H2 c0 hixk hmul hlw2
 go_wp2
 have H4 : Hid (PP w (W3.alloc (.cells #[.string (wordS 0)] 9)) (callC 1 0 8 0 nilS nilS nilS) B sb #[.string (wordS 0), .slice (some ⟨B + 3, 0, none⟩) 3 3] /\ (W3.alloc (.cells #[.string (wordS 0)] 9)).ownsRow w.heap.size 9 1 (.slice (some ⟨W3.heap.size, 0, none⟩) 1 1) 1 [.string (wordS 0)]) := Lib.hid ⟨H3.out.below (bl_alloc (bl_refl W3)), one_str _ H3.out.bl.size⟩
 clear s0 s1 l0 H3
 go_loopw [5, 42] (fun l i wr => ∃ (q : Nat) (al : Option Addr) (cl : Nat), q <= 3 /\ l = .slice al (1 + q) cl /\ i = .int .i64 q /\ Hid (PP w wr (callC 1 0 8 0 nilS nilS nilS) B sb #[.string (wordS 0), .slice (some ⟨B + 3, 0, none⟩) 3 3] /\ wr.ownsRow w.heap.size 9 1 (.slice al (1 + q) cl) (1 + q) ((wsA.take (1 + q)).map Value.string))) (fun l i _ => 4 - (intOf i).toNat)
 case atStart => exact ⟨0, _, _, by omega, rfl, rfl, H4⟩
 case round =>
  clear H4
  obtain ⟨q, al, cl, hq, rfl, rfl, HQ⟩ := hrel
  obtain rfl | rfl | rfl | rfl : q = 0 \/ q = 1 \/ q = 2 \/ q = 3 := by omega
  ·have g0 := cell_of_row wr (B + 3) 0 _ _ _ HQ.out.1.sh.new
   have g1 := cell_of_row wr (B + 3) 1 _ _ _ HQ.out.1.sh.new
   have hlg := cell_lt g0
   have G0 : wr.cell? ⟨B + 3, 0, none⟩ = some (.func (.func 202) #[] #[]) := g0
   have G1 : wr.cell? ⟨B + 3, 1, none⟩ = some (.func (.func 203) #[] #[]) := g1
   have hl2 := run_row2 wr (B + 3) 0 _ _ G0 G1
   clear g0 g1
   obtain ⟨wq, hwq⟩ : ∃ wq, Hid (wq = algW 8) := ⟨_, Lib.hid rfl⟩
   go_wp2_with (first | (go_at_call 203; have H5 := PPx HQ (.cells #[.func (.func 202) #[] #[], .func (.func 203) #[] #[]] 230); (refine (putAlg_w _ H5.out.1.cl (HT.out H5.out.1.bl).1).mono ?_); rintro e w5 ⟨rfl, hB5⟩; rw [<- hwq.out]; have H6 := PPb H5 hB5; clear hB5) | (at_builtin; refine append_str rfl (.tmp 46) (.tmp 50) rfl rfl H6.out.2 rfl rfl ?hm ?hby ?_; (case hm => omega); (case hby => exact H6.out.1.bl.size); intro v7 w7 O7 G7 B7; have H7 := PPs H6 O7 G7 B7; obtain ⟨a7, c7, rfl⟩ := ownsRow_slice O7; clear O7 G7 B7))
   have e7 := hwq.out
   subst e7
   exact ⟨⟨1, a7, c7, by omega, rfl, rfl, H7⟩, by simp only [intOf]; omega⟩
  ·have g0 := cell_of_row wr (B + 3) 2 _ _ _ HQ.out.1.sh.new
   have g1 := cell_of_row wr (B + 3) 3 _ _ _ HQ.out.1.sh.new
   have hlg := cell_lt g0
   have G0 : wr.cell? ⟨B + 3, 2, none⟩ = some (.func (.func 204) #[] #[]) := g0
   have G1 : wr.cell? ⟨B + 3, 3, none⟩ = some (.func (.func 205) #[] #[]) := g1
   have hl2 := run_row2 wr (B + 3) 2 _ _ G0 G1
   clear g0 g1
   obtain ⟨wq, hwq⟩ : ∃ wq, Hid (wq = dashS) := ⟨_, Lib.hid rfl⟩
   go_wp2_with (first | (go_at_call 205; have H5 := PPx HQ (.cells #[.func (.func 204) #[] #[], .func (.func 205) #[] #[]] 230); (refine (putFirst_w _ H5.out.1.cl).mono ?_); rintro e w5 ⟨rfl, hB5⟩; rw [<- hwq.out]; have H6 := PPb H5 hB5; clear hB5) | (at_builtin; refine append_str rfl (.tmp 46) (.tmp 50) rfl rfl H6.out.2 rfl rfl ?hm ?hby ?_; (case hm => omega); (case hby => exact H6.out.1.bl.size); intro v7 w7 O7 G7 B7; have H7 := PPs H6 O7 G7 B7; obtain ⟨a7, c7, rfl⟩ := ownsRow_slice O7; clear O7 G7 B7))
   have e7 := hwq.out
   subst e7
   exact ⟨⟨2, a7, c7, by omega, rfl, rfl, H7⟩, by simp only [intOf]; omega⟩
  ·have g0 := cell_of_row wr (B + 3) 4 _ _ _ HQ.out.1.sh.new
   have g1 := cell_of_row wr (B + 3) 5 _ _ _ HQ.out.1.sh.new
   have hlg := cell_lt g0
   have G0 : wr.cell? ⟨B + 3, 4, none⟩ = some (.func (.func 206) #[] #[]) := g0
   have G1 : wr.cell? ⟨B + 3, 5, none⟩ = some (.func (.func 207) #[] #[]) := g1
   have hl2 := run_row2 wr (B + 3) 4 _ _ G0 G1
   clear g0 g1
   obtain ⟨wq, hwq⟩ : ∃ wq, Hid (wq = dashS) := ⟨_, Lib.hid rfl⟩
   go_wp2_with (first | (go_at_call 207; have H5 := PPx HQ (.cells #[.func (.func 206) #[] #[], .func (.func 207) #[] #[]] 230); (refine (putLast_w _ H5.out.1.cl).mono ?_); rintro e w5 ⟨rfl, hB5⟩; rw [<- hwq.out]; have H6 := PPb H5 hB5; clear hB5) | (at_builtin; refine append_str rfl (.tmp 46) (.tmp 50) rfl rfl H6.out.2 rfl rfl ?hm ?hby ?_; (case hm => omega); (case hby => exact H6.out.1.bl.size); intro v7 w7 O7 G7 B7; have H7 := PPs H6 O7 G7 B7; obtain ⟨a7, c7, rfl⟩ := ownsRow_slice O7; clear O7 G7 B7))
   have e7 := hwq.out
   subst e7
   exact ⟨⟨3, a7, c7, by omega, rfl, rfl, H7⟩, by simp only [intOf]; omega⟩
  ·go_wp2_with (first | (go_at_call 97; (refine (joinG wsA lineA joinA rfl (by decide) HQ.out.2).mono ?_); rintro e w8 ⟨rfl, B8⟩; have H8 := PPb HQ B8; clear B8) | (go_at_call 95; (refine (parseA_w _ (HT.out H8.out.1.bl).1 (HT.out H8.out.1.bl).2).mono ?_); rintro e w9 ⟨rfl, B9⟩; have H9 := PPb H8 B9; clear B9; have L1 := Cl.load (show Cl (w9.alloc (.cells (callC 1 0 8 0 nilS nilS nilS) 108)) w9.heap.size (callC 1 0 8 0 nilS nilS nilS) from heap_at _ _ _ rfl); have L2 := Cl.load (H9.out.1.cl.below (bl_alloc (o := .cells (callC 1 0 8 0 nilS nilS nilS) 108) (bl_refl w9))); simp only [callC, callL, nilS] at L1 L2 ⊢) | (go_at_call 168; (refine (same_w (kind := 1) (h := 0) (alg := 8) (n := 0) _ (SameB.nil _) (SameB.nil _) (SameB.nil _)).mono ?_); rintro e w10 ⟨rfl, B10⟩; have HX := Lib.hid (bl_call H9.out.1.bl (bl_call (bl_alloc (bl_refl w9)) B10)); clear B10))
   go_ret2
   exact ⟨rfl, HX.out⟩
end
section
open Go.RowKit Go.Shelf Bt
attribute [local go_sem] lt_s2 lt_s3 lt_s4 lt_s5 lt_s6 hasRow_at hasRow_past run_storeRow Value.oneCell' setRow_at setRow_past run_store_func
attribute [local go_sem ↓] storeRow_is loadRow_is
theorem joinB : (⟨(Lib.join (wsB.map (·.data.toList)) (⟨#[32]⟩ : ByteArray).data.toList).toArray⟩ : ByteArray) = lineB := by kernel_rfl
set_option maxRecDepth 100000 in
set_option maxHeartbeats 8000000 in
theorem printB_w (p : Option Addr) (cp : Nat) (w : World) (hp : reads w p 3 .u8 (fun j => (abcC j : Int))) (ht : TabE w) {m : Int} (hm : w.cell? ⟨6, 0, none⟩ = some (.int .i64 m)) : Calls Tryz.prog 100 #[.agg (callC 4 1 0 0 nilS nilS (.slice p 3 cp))] w fun e w' => e = .returned (.tuple #[.string lineB, .int .i64 0]) /\ Below w.heap.size w w' := by
 have HT : Hid (∀ {w' : World}, Below w.heap.size w w' -> TabE w' /\ w'.cell? ⟨6, 0, none⟩ = some (.int .i64 m)) := Lib.hid fun hB => ⟨ht.grown (gb_below (r := none) hB) (by simp), (hB.cell (p := ⟨6, 0, none⟩) (cell_lt hm)).trans hm⟩
 have HP := Lib.hid hp
 clear hp
 have CH : Hid (∀ W : World, Calls Tryz.prog 141 #[] W fun e w' => e = .returned (.agg (shC W.heap.size)) /\ Below W.heap.size W w' /\ ShM w' W.heap.size) := Lib.hid shapes_w
 have A0 : Cl (w.alloc (.cells (callC 4 1 0 0 nilS nilS (.slice p 3 cp)) 108)) w.heap.size (callC 4 1 0 0 nilS nilS (.slice p 3 cp)) := heap_at _ _ _ rfl
 have B0 : Below w.heap.size w (w.alloc (.cells (callC 4 1 0 0 nilS nilS (.slice p 3 cp)) 108)) := bl_alloc (bl_refl w)
 clear ht hm
 go_enter Tryz.func100, Tryz.ntmps100
 simp only [callC, callL]
 go_wp2
 change Code.wp _ _ _ _ (w.alloc (.cells (callC 4 1 0 0 nilS nilS (.slice p 3 cp)) 108))
 obtain ⟨W1, hW1⟩ : ∃ W1, Hid (w.alloc (.cells (callC 4 1 0 0 nilS nilS (.slice p 3 cp)) 108) = W1) := ⟨_, Lib.hid rfl⟩
 rw [hW1.out] at A0 B0 ⊢
 have a0 : W1.cell? ⟨w.heap.size, 0, none⟩ = some (.int .i64 4) := (A0.cell 0).1
 have a1 : W1.cell? ⟨w.heap.size, 1, none⟩ = some (.int .i64 1) := (A0.cell 1).1
 have a3 : W1.cell? ⟨w.heap.size, 3, none⟩ = some (.int .i64 0) := (A0.cell 3).1
 have H1 := Lib.hid (And.intro A0 B0)
 clear A0 B0 hW1
 apply wp_meet (fun w2 => Cl w2 w.heap.size (callC 4 1 0 0 nilS nilS (.slice p 3 cp)) /\ Below w.heap.size w w2)
 case h1 =>
  intro K hK
  go_region_with (go_at_call 141; (with_reducible refine (CH.out _).mono ?_); rintro e w2 ⟨rfl, hB2, hM2⟩; have A2 := H1.out.1.below (bl_call (bl_drew (bl_refl W1)) hB2); have b0 : w2.cell? ⟨w.heap.size, 0, none⟩ = some (.int .i64 4) := (A2.cell 0).1; have b1 : w2.cell? ⟨w.heap.size, 1, none⟩ = some (.int .i64 1) := (A2.cell 1).1; have b3 : w2.cell? ⟨w.heap.size, 3, none⟩ = some (.int .i64 0) := (A2.cell 3).1; have H2 := Lib.hid (And.intro A2 (bl_call H1.out.2 (bl_call (bl_drew (bl_refl W1)) hB2))); clear hB2 hM2 A2)
  all_goals exact hK.out _ H2.out
 intro W2 H2
 simp only [Act.put, List.getElem_toArray, List.getElem_cons_succ, List.getElem_cons_zero, List.setIfInBounds_toArray, List.set_cons_succ, List.set_cons_zero]
 have c0 : W2.cell? ⟨w.heap.size, 0, none⟩ = some (.int .i64 4) := (H2.1.cell 0).1
 have H2 := Lib.hid H2
 clear a0 a1 a3 H1
 go_wp2
 have hmul : IntKind.i64.wrap 3 = 3 := rfl
 have hixk := pix3
 have hlw2 : w.heap.size < W2.heap.size := cell_lt c0
 refine wp_meet2 (fun B sb => ⟨#[.agg (callC 4 1 0 0 nilS nilS (.slice p 3 cp)), .pointer (some ⟨w.heap.size, 0, none⟩), .string ⟨#[]⟩, .int .i64 0, .pointer (some ⟨sb, 0, none⟩), undef, undef, undef, undef, undef, undef, .pointer (some ⟨w.heap.size, 0, none⟩), .int .i64 4, .bool false, .bool false, .pointer (some ⟨w.heap.size, 0, none⟩), .int .i64 4, .agg (shC W1.heap.size), .int .i64 10, .bool false, .bool false, .bool false, .pointer (some ⟨w.heap.size, 1, none⟩), .int .i64 1, .bool false, .bool false, .bool false, .pointer (some ⟨w.heap.size, 3, none⟩), .int .i64 0, .bool false, .bool false, .agg (shC B), .pointer (some ⟨w.heap.size, 0, none⟩), .int .i64 4, .int .i64 3, .agg #[.string (wordS 3), .slice (some ⟨B + 6, 0, none⟩) 2 2], undef, undef, undef, undef, undef, undef, undef, undef, undef, undef, undef, undef, undef, undef, undef, undef, undef, undef, undef, undef, undef, undef, undef, undef, undef, undef, undef, undef, undef, undef, undef, undef, undef], []⟩)
  (fun B sb w3 => PP w w3 (callC 4 1 0 0 nilS nilS (.slice p 3 cp)) B sb #[.string (wordS 3), .slice (some ⟨B + 6, 0, none⟩) 2 2]) (fun K hK => ?_) ?_
 ·go_region_with (first | (go_at_call 141; (with_reducible refine (CH.out W2.drew).mono ?_); rintro e w3 ⟨rfl, hB3, hM3⟩; have hB4 := bl_call (bl_drew (bl_refl W2)) hB3; have b0 : w3.cell? ⟨w.heap.size, 0, none⟩ = some (.int .i64 4) := ((H2.out.1.below hB4).cell 0).1; have hlw : w.heap.size < w3.heap.size := cell_lt b0; have H3 := Lib.hid (And.intro hB4 hM3); clear hB3 hM3 hB4) | (go_at_call 141; (with_reducible refine (CH.out (W2.alloc (.cells #[.string ⟨#[]⟩, .slice none 0 0] 224)).drew).mono ?_); rintro e w3 ⟨rfl, hB3, hM3⟩; have hr3 := PP.zero2 hB3; have b0 := PP.kind2 (a := .int .i64 4) H2.out hB3 rfl; have H3 := Lib.hid (PP.both2 hB3 hM3); clear hB3 hM3))
  all_goals first
   | exact hK.out W2.heap.size w3.heap.size _ (PP.fst H2.out H3.out.1 H3.out.2 _)
   | exact hK.out (W2.heap.size + 1) W2.heap.size _ (PP.snd H2.out H3.out.1 H3.out.2 _)
 intro B sb W3 H3
 have s0 := cell_of_row W3 sb 0 _ _ _ H3.row
 have s1 := cell_of_row W3 sb 1 _ _ _ H3.row
 have l0 := cell_lt s0
 have H3 := Lib.hid H3
 clear H2 c0 hixk hmul hlw2
 go_wp2
 have H4 : Hid (PP w (W3.alloc (.cells #[.string (wordS 3)] 9)) (callC 4 1 0 0 nilS nilS (.slice p 3 cp)) B sb #[.string (wordS 3), .slice (some ⟨B + 6, 0, none⟩) 2 2] /\ (W3.alloc (.cells #[.string (wordS 3)] 9)).ownsRow w.heap.size 9 1 (.slice (some ⟨W3.heap.size, 0, none⟩) 1 1) 1 [.string (wordS 3)]) := Lib.hid ⟨H3.out.below (bl_alloc (bl_refl W3)), one_str _ H3.out.bl.size⟩
 clear s0 s1 l0 H3
 go_loopw [5, 42] (fun l i wr => ∃ (q : Nat) (al : Option Addr) (cl : Nat), q <= 2 /\ l = .slice al (1 + q) cl /\ i = .int .i64 q /\ Hid (PP w wr (callC 4 1 0 0 nilS nilS (.slice p 3 cp)) B sb #[.string (wordS 3), .slice (some ⟨B + 6, 0, none⟩) 2 2] /\ wr.ownsRow w.heap.size 9 1 (.slice al (1 + q) cl) (1 + q) ((wsB.take (1 + q)).map Value.string))) (fun l i _ => 3 - (intOf i).toNat)
 case atStart => exact ⟨0, _, _, by omega, rfl, rfl, H4⟩
 case round =>
  clear H4
  obtain ⟨q, al, cl, hq, rfl, rfl, HQ⟩ := hrel
  obtain rfl | rfl | rfl : q = 0 \/ q = 1 \/ q = 2 := by omega
  ·have g0 := cell_of_row wr (B + 6) 0 _ _ _ HQ.out.1.sh.write
   have g1 := cell_of_row wr (B + 6) 1 _ _ _ HQ.out.1.sh.write
   have hlg := cell_lt g0
   have G0 : wr.cell? ⟨B + 6, 0, none⟩ = some (.func (.func 198) #[] #[]) := g0
   have G1 : wr.cell? ⟨B + 6, 1, none⟩ = some (.func (.func 199) #[] #[]) := g1
   have hl2 := run_row2 wr (B + 6) 0 _ _ G0 G1
   clear g0 g1
   obtain ⟨wq, hwq⟩ : ∃ wq, Hid (wq = w1S) := ⟨_, Lib.hid rfl⟩
   go_wp2_with (first | (go_at_call 199; have H5 := PPx HQ (.cells #[.func (.func 198) #[] #[], .func (.func 199) #[] #[]] 230); (refine (putH_w _ H5.out.1.cl).mono ?_); rintro e w5 ⟨rfl, hB5⟩; rw [<- hwq.out]; have H6 := PPb H5 hB5; clear hB5) | (at_builtin; refine append_str rfl (.tmp 46) (.tmp 50) rfl rfl H6.out.2 rfl rfl ?hm ?hby ?_; (case hm => omega); (case hby => exact H6.out.1.bl.size); intro v7 w7 O7 G7 B7; have H7 := PPs H6 O7 G7 B7; obtain ⟨a7, c7, rfl⟩ := ownsRow_slice O7; clear O7 G7 B7))
   have e7 := hwq.out
   subst e7
   exact ⟨⟨1, a7, c7, by omega, rfl, rfl, H7⟩, by simp only [intOf]; omega⟩
  ·have g0 := cell_of_row wr (B + 6) 2 _ _ _ HQ.out.1.sh.write
   have g1 := cell_of_row wr (B + 6) 3 _ _ _ HQ.out.1.sh.write
   have hlg := cell_lt g0
   have G0 : wr.cell? ⟨B + 6, 2, none⟩ = some (.func (.func 200) #[] #[]) := g0
   have G1 : wr.cell? ⟨B + 6, 3, none⟩ = some (.func (.func 201) #[] #[]) := g1
   have hl2 := run_row2 wr (B + 6) 2 _ _ G0 G1
   clear g0 g1
   obtain ⟨wq, hwq⟩ : ∃ wq, Hid (wq = s6) := ⟨_, Lib.hid rfl⟩
   go_wp2_with (first | (go_at_call 201; have H5 := PPx HQ (.cells #[.func (.func 200) #[] #[], .func (.func 201) #[] #[]] 230); (refine (putB_abc p cp _ H5.out.1.cl (reads_below (Nat.le_refl _) H5.out.1.bl HP.out)).mono ?_); rintro e w5 ⟨rfl, hB5⟩; rw [<- hwq.out]; have H6 := PPb H5 hB5; clear hB5) | (at_builtin; refine append_str rfl (.tmp 46) (.tmp 50) rfl rfl H6.out.2 rfl rfl ?hm ?hby ?_; (case hm => omega); (case hby => exact H6.out.1.bl.size); intro v7 w7 O7 G7 B7; have H7 := PPs H6 O7 G7 B7; obtain ⟨a7, c7, rfl⟩ := ownsRow_slice O7; clear O7 G7 B7))
   have e7 := hwq.out
   subst e7
   exact ⟨⟨2, a7, c7, by omega, rfl, rfl, H7⟩, by simp only [intOf]; omega⟩
  ·go_wp2_with (first | (go_at_call 97; (refine (joinG wsB lineB joinB rfl (by decide) HQ.out.2).mono ?_); rintro e w8 ⟨rfl, B8⟩; have H8 := PPb HQ B8; clear B8) | (go_at_call 95; (refine (parseB_w _ (HT.out H8.out.1.bl).1 (HT.out H8.out.1.bl).2).mono ?_); rintro e w9 ⟨v9, rfl, O9, B9⟩; obtain ⟨a9, c9, rfl, _, _, R9⟩ := owns_reads O9; have H9 := Lib.hid (And.intro (PPb H8 B9).out R9); clear B9 O9 R9; have L1 := Cl.load (show Cl (w9.alloc (.cells (callC 4 1 0 0 nilS nilS (.slice a9 3 c9)) 108)) w9.heap.size (callC 4 1 0 0 nilS nilS (.slice a9 3 c9)) from heap_at _ _ _ rfl); have L2 := Cl.load (H9.out.1.1.cl.below (bl_alloc (o := .cells (callC 4 1 0 0 nilS nilS (.slice a9 3 c9)) 108) (bl_refl w9))); simp only [callC, callL, nilS] at L1 L2 ⊢) | (go_at_call 168; (refine (same_w (kind := 4) (h := 1) (alg := 0) (n := 0) _ (SameB.nil _) (SameB.nil _) ⟨a9, p, 3, c9, cp, fun j => (abcC j : Int), rfl, rfl, by omega, reads_below (Nat.le_refl _) (bl_alloc (bl_refl _)) H9.out.2, reads_below (Nat.le_refl _) (H9.out.1.1.bl.trans ((bl_alloc (bl_refl _)).mono H9.out.1.1.bl.size)) HP.out, abcR⟩).mono ?_); rintro e w10 ⟨rfl, B10⟩; have HX := Lib.hid (bl_call H9.out.1.1.bl (bl_call (bl_alloc (bl_refl w9)) B10)); clear B10))
   go_ret2
   exact ⟨rfl, HX.out⟩
end
section
open Go.RowKit Go.Shelf Bt
attribute [local go_sem] lt_s2 lt_s3 lt_s4 lt_s5 lt_s6 hasRow_at hasRow_past run_storeRow Value.oneCell' setRow_at setRow_past run_store_func
attribute [local go_sem ↓] storeRow_is loadRow_is
theorem joinC : (⟨(Lib.join (wsC.map (·.data.toList)) (⟨#[32]⟩ : ByteArray).data.toList).toArray⟩ : ByteArray) = lineC := by kernel_rfl
set_option maxRecDepth 100000 in
set_option maxHeartbeats 8000000 in
theorem printC_w (w : World) (ht : TabE w) {m : Int} (hm : w.cell? ⟨6, 0, none⟩ = some (.int .i64 m)) : Calls Tryz.prog 100 #[.agg (callC 5 1 0 0 nilS nilS nilS)] w fun e w' => e = .returned (.tuple #[.string lineC, .int .i64 0]) /\ Below w.heap.size w w' := by
 have HT : Hid (∀ {w' : World}, Below w.heap.size w w' -> TabE w' /\ w'.cell? ⟨6, 0, none⟩ = some (.int .i64 m)) := Lib.hid fun hB => ⟨ht.grown (gb_below (r := none) hB) (by simp), (hB.cell (p := ⟨6, 0, none⟩) (cell_lt hm)).trans hm⟩
 have CH : Hid (∀ W : World, Calls Tryz.prog 141 #[] W fun e w' => e = .returned (.agg (shC W.heap.size)) /\ Below W.heap.size W w' /\ ShM w' W.heap.size) := Lib.hid shapes_w
 have A0 : Cl (w.alloc (.cells (callC 5 1 0 0 nilS nilS nilS) 108)) w.heap.size (callC 5 1 0 0 nilS nilS nilS) := heap_at _ _ _ rfl
 have B0 : Below w.heap.size w (w.alloc (.cells (callC 5 1 0 0 nilS nilS nilS) 108)) := bl_alloc (bl_refl w)
 clear ht hm
 go_enter Tryz.func100, Tryz.ntmps100
 simp only [callC, callL]
 go_wp2
 change Code.wp _ _ _ _ (w.alloc (.cells (callC 5 1 0 0 nilS nilS nilS) 108))
 obtain ⟨W1, hW1⟩ : ∃ W1, Hid (w.alloc (.cells (callC 5 1 0 0 nilS nilS nilS) 108) = W1) := ⟨_, Lib.hid rfl⟩
 rw [hW1.out] at A0 B0 ⊢
 have a0 : W1.cell? ⟨w.heap.size, 0, none⟩ = some (.int .i64 5) := (A0.cell 0).1
 have a1 : W1.cell? ⟨w.heap.size, 1, none⟩ = some (.int .i64 1) := (A0.cell 1).1
 have a3 : W1.cell? ⟨w.heap.size, 3, none⟩ = some (.int .i64 0) := (A0.cell 3).1
 have H1 := Lib.hid (And.intro A0 B0)
 clear A0 B0 hW1
 apply wp_meet (fun w2 => Cl w2 w.heap.size (callC 5 1 0 0 nilS nilS nilS) /\ Below w.heap.size w w2)
 case h1 =>
  intro K hK
  go_region_with (go_at_call 141; (with_reducible refine (CH.out _).mono ?_); rintro e w2 ⟨rfl, hB2, hM2⟩; have A2 := H1.out.1.below (bl_call (bl_drew (bl_refl W1)) hB2); have b0 : w2.cell? ⟨w.heap.size, 0, none⟩ = some (.int .i64 5) := (A2.cell 0).1; have b1 : w2.cell? ⟨w.heap.size, 1, none⟩ = some (.int .i64 1) := (A2.cell 1).1; have b3 : w2.cell? ⟨w.heap.size, 3, none⟩ = some (.int .i64 0) := (A2.cell 3).1; have H2 := Lib.hid (And.intro A2 (bl_call H1.out.2 (bl_call (bl_drew (bl_refl W1)) hB2))); clear hB2 hM2 A2)
  all_goals exact hK.out _ H2.out
 intro W2 H2
 simp only [Act.put, List.getElem_toArray, List.getElem_cons_succ, List.getElem_cons_zero, List.setIfInBounds_toArray, List.set_cons_succ, List.set_cons_zero]
 have c0 : W2.cell? ⟨w.heap.size, 0, none⟩ = some (.int .i64 5) := (H2.1.cell 0).1
 have H2 := Lib.hid H2
 clear a0 a1 a3 H1
 go_wp2
 have hmul : IntKind.i64.wrap 4 = 4 := rfl
 have hixk := pix4
 have hlw2 : w.heap.size < W2.heap.size := cell_lt c0
 refine wp_meet2 (fun B sb => ⟨#[.agg (callC 5 1 0 0 nilS nilS nilS), .pointer (some ⟨w.heap.size, 0, none⟩), .string ⟨#[]⟩, .int .i64 0, .pointer (some ⟨sb, 0, none⟩), undef, undef, undef, undef, undef, undef, .pointer (some ⟨w.heap.size, 0, none⟩), .int .i64 5, .bool false, .bool false, .pointer (some ⟨w.heap.size, 0, none⟩), .int .i64 5, .agg (shC W1.heap.size), .int .i64 10, .bool false, .bool false, .bool false, .pointer (some ⟨w.heap.size, 1, none⟩), .int .i64 1, .bool false, .bool false, .bool false, .pointer (some ⟨w.heap.size, 3, none⟩), .int .i64 0, .bool false, .bool false, .agg (shC B), .pointer (some ⟨w.heap.size, 0, none⟩), .int .i64 5, .int .i64 4, .agg #[.string (wordS 4), .slice (some ⟨B + 7, 0, none⟩) 2 2], undef, undef, undef, undef, undef, undef, undef, undef, undef, undef, undef, undef, undef, undef, undef, undef, undef, undef, undef, undef, undef, undef, undef, undef, undef, undef, undef, undef, undef, undef, undef, undef, undef], []⟩)
  (fun B sb w3 => PP w w3 (callC 5 1 0 0 nilS nilS nilS) B sb #[.string (wordS 4), .slice (some ⟨B + 7, 0, none⟩) 2 2]) (fun K hK => ?_) ?_
 ·go_region_with (first | (go_at_call 141; (with_reducible refine (CH.out W2.drew).mono ?_); rintro e w3 ⟨rfl, hB3, hM3⟩; have hB4 := bl_call (bl_drew (bl_refl W2)) hB3; have b0 : w3.cell? ⟨w.heap.size, 0, none⟩ = some (.int .i64 5) := ((H2.out.1.below hB4).cell 0).1; have hlw : w.heap.size < w3.heap.size := cell_lt b0; have H3 := Lib.hid (And.intro hB4 hM3); clear hB3 hM3 hB4) | (go_at_call 141; (with_reducible refine (CH.out (W2.alloc (.cells #[.string ⟨#[]⟩, .slice none 0 0] 224)).drew).mono ?_); rintro e w3 ⟨rfl, hB3, hM3⟩; have hr3 := PP.zero2 hB3; have b0 := PP.kind2 (a := .int .i64 5) H2.out hB3 rfl; have H3 := Lib.hid (PP.both2 hB3 hM3); clear hB3 hM3))
  all_goals first
   | exact hK.out W2.heap.size w3.heap.size _ (PP.fst H2.out H3.out.1 H3.out.2 _)
   | exact hK.out (W2.heap.size + 1) W2.heap.size _ (PP.snd H2.out H3.out.1 H3.out.2 _)
 intro B sb W3 H3
 have s0 := cell_of_row W3 sb 0 _ _ _ H3.row
 have s1 := cell_of_row W3 sb 1 _ _ _ H3.row
 have l0 := cell_lt s0
 have H3 := Lib.hid H3
 clear H2 c0 hixk hmul hlw2
 go_wp2
 have H4 : Hid (PP w (W3.alloc (.cells #[.string (wordS 4)] 9)) (callC 5 1 0 0 nilS nilS nilS) B sb #[.string (wordS 4), .slice (some ⟨B + 7, 0, none⟩) 2 2] /\ (W3.alloc (.cells #[.string (wordS 4)] 9)).ownsRow w.heap.size 9 1 (.slice (some ⟨W3.heap.size, 0, none⟩) 1 1) 1 [.string (wordS 4)]) := Lib.hid ⟨H3.out.below (bl_alloc (bl_refl W3)), one_str _ H3.out.bl.size⟩
 clear s0 s1 l0 H3
 go_loopw [5, 42] (fun l i wr => ∃ (q : Nat) (al : Option Addr) (cl : Nat), q <= 2 /\ l = .slice al (1 + q) cl /\ i = .int .i64 q /\ Hid (PP w wr (callC 5 1 0 0 nilS nilS nilS) B sb #[.string (wordS 4), .slice (some ⟨B + 7, 0, none⟩) 2 2] /\ wr.ownsRow w.heap.size 9 1 (.slice al (1 + q) cl) (1 + q) ((wsC.take (1 + q)).map Value.string))) (fun l i _ => 3 - (intOf i).toNat)
 case atStart => exact ⟨0, _, _, by omega, rfl, rfl, H4⟩
 case round =>
  clear H4
  obtain ⟨q, al, cl, hq, rfl, rfl, HQ⟩ := hrel
  obtain rfl | rfl | rfl : q = 0 \/ q = 1 \/ q = 2 := by omega
  ·have g0 := cell_of_row wr (B + 7) 0 _ _ _ HQ.out.1.sh.sum
   have g1 := cell_of_row wr (B + 7) 1 _ _ _ HQ.out.1.sh.sum
   have hlg := cell_lt g0
   have G0 : wr.cell? ⟨B + 7, 0, none⟩ = some (.func (.func 198) #[] #[]) := g0
   have G1 : wr.cell? ⟨B + 7, 1, none⟩ = some (.func (.func 199) #[] #[]) := g1
   have hl2 := run_row2 wr (B + 7) 0 _ _ G0 G1
   clear g0 g1
   obtain ⟨wq, hwq⟩ : ∃ wq, Hid (wq = w1S) := ⟨_, Lib.hid rfl⟩
   go_wp2_with (first | (go_at_call 199; have H5 := PPx HQ (.cells #[.func (.func 198) #[] #[], .func (.func 199) #[] #[]] 230); (refine (putH_w _ H5.out.1.cl).mono ?_); rintro e w5 ⟨rfl, hB5⟩; rw [<- hwq.out]; have H6 := PPb H5 hB5; clear hB5) | (at_builtin; refine append_str rfl (.tmp 46) (.tmp 50) rfl rfl H6.out.2 rfl rfl ?hm ?hby ?_; (case hm => omega); (case hby => exact H6.out.1.bl.size); intro v7 w7 O7 G7 B7; have H7 := PPs H6 O7 G7 B7; obtain ⟨a7, c7, rfl⟩ := ownsRow_slice O7; clear O7 G7 B7))
   have e7 := hwq.out
   subst e7
   exact ⟨⟨1, a7, c7, by omega, rfl, rfl, H7⟩, by simp only [intOf]; omega⟩
  ·have g0 := cell_of_row wr (B + 7) 2 _ _ _ HQ.out.1.sh.sum
   have g1 := cell_of_row wr (B + 7) 3 _ _ _ HQ.out.1.sh.sum
   have hlg := cell_lt g0
   have G0 : wr.cell? ⟨B + 7, 2, none⟩ = some (.func (.func 200) #[] #[]) := g0
   have G1 : wr.cell? ⟨B + 7, 3, none⟩ = some (.func (.func 201) #[] #[]) := g1
   have hl2 := run_row2 wr (B + 7) 2 _ _ G0 G1
   clear g0 g1
   obtain ⟨wq, hwq⟩ : ∃ wq, Hid (wq = dashS) := ⟨_, Lib.hid rfl⟩
   go_wp2_with (first | (go_at_call 201; have H5 := PPx HQ (.cells #[.func (.func 200) #[] #[], .func (.func 201) #[] #[]] 230); (refine (putB_dash _ H5.out.1.cl).mono ?_); rintro e w5 ⟨rfl, hB5⟩; rw [<- hwq.out]; have H6 := PPb H5 hB5; clear hB5) | (at_builtin; refine append_str rfl (.tmp 46) (.tmp 50) rfl rfl H6.out.2 rfl rfl ?hm ?hby ?_; (case hm => omega); (case hby => exact H6.out.1.bl.size); intro v7 w7 O7 G7 B7; have H7 := PPs H6 O7 G7 B7; obtain ⟨a7, c7, rfl⟩ := ownsRow_slice O7; clear O7 G7 B7))
   have e7 := hwq.out
   subst e7
   exact ⟨⟨2, a7, c7, by omega, rfl, rfl, H7⟩, by simp only [intOf]; omega⟩
  ·go_wp2_with (first | (go_at_call 97; (refine (joinG wsC lineC joinC rfl (by decide) HQ.out.2).mono ?_); rintro e w8 ⟨rfl, B8⟩; have H8 := PPb HQ B8; clear B8) | (go_at_call 95; (refine (parseC_w _ (HT.out H8.out.1.bl).1 (HT.out H8.out.1.bl).2).mono ?_); rintro e w9 ⟨rfl, B9⟩; have H9 := PPb H8 B9; clear B9; have L1 := Cl.load (show Cl (w9.alloc (.cells (callC 5 1 0 0 nilS nilS nilS) 108)) w9.heap.size (callC 5 1 0 0 nilS nilS nilS) from heap_at _ _ _ rfl); have L2 := Cl.load (H9.out.1.cl.below (bl_alloc (o := .cells (callC 5 1 0 0 nilS nilS nilS) 108) (bl_refl w9))); simp only [callC, callL, nilS] at L1 L2 ⊢) | (go_at_call 168; (refine (same_w (kind := 5) (h := 1) (alg := 0) (n := 0) _ (SameB.nil _) (SameB.nil _) (SameB.nil _)).mono ?_); rintro e w10 ⟨rfl, B10⟩; have HX := Lib.hid (bl_call H9.out.1.bl (bl_call (bl_alloc (bl_refl w9)) B10)); clear B10))
   go_ret2
   exact ⟨rfl, HX.out⟩
end
section
open Go.RowKit Go.Shelf Bt
attribute [local go_sem] Oper.semAt_some
def lnX3 (k : Nat) : ByteArray := ([⟨#[110, 101, 119, 32, 115, 104, 97, 51, 45, 50, 53, 54, 32, 45, 32, 45, 10]⟩, ⟨#[119, 114, 105, 116, 101, 32, 49, 32, 54, 49, 54, 50, 54, 51, 10]⟩, ⟨#[115, 117, 109, 32, 49, 32, 45, 10]⟩] : List ByteArray).getD k ⟨#[]⟩
def rsN (k : Nat) : ByteArray := ([⟨#[110, 101, 119, 32, 115, 104, 97, 51, 45, 50, 53, 54, 32, 45, 32, 45, 10, 119, 114, 105, 116, 101, 32, 49, 32, 54, 49, 54, 50, 54, 51, 10, 115, 117, 109, 32, 49, 32, 45, 10]⟩, ⟨#[119, 114, 105, 116, 101, 32, 49, 32, 54, 49, 54, 50, 54, 51, 10, 115, 117, 109, 32, 49, 32, 45, 10]⟩, ⟨#[115, 117, 109, 32, 49, 32, 45, 10]⟩] : List ByteArray).getD k ⟨#[]⟩
def nlN (k : Nat) : Nat := [16, 14, 7].getD k 0
theorem nl_w (k : Nat) (hk : k < 3) (w : World) : Calls Tryz.prog 138 #[.string (rsN k), .int .u8 10] w fun e w' => e = .returned (.int .i64 (nlN k : Nat)) /\ w' = w := by
 have h := Tryz.strings_IndexByte (rsN k) 10 w
 have e : Lib.indexByte (rsN k).data.toList (10 : Int).toNat.toUInt8 = (nlN k : Nat) := by
  obtain rfl | rfl | rfl : k = 0 \/ k = 1 \/ k = 2 := by omega
  all_goals decide
 rw [e] at h
 exact h
theorem cut_w (k : Nat) (hk : k < 3) (w : World) : (Instr.slice 9 (.string (rsN k)) none (some (.int .i64 ((nlN k : Nat) + 1))) none).run Tryz.prog w = .ok (.string (lnX3 k)) w /\ (Instr.slice 9 (.string (rsN k)) (some (.int .i64 ((nlN k : Nat) + 1))) none none).run Tryz.prog w = .ok (.string (rsN (k + 1))) w /\ IntKind.i64.wrap ((nlN k : Nat) + 1) = (nlN k : Nat) + 1 /\ 0 < (rsN k).size /\ (0 : Int) <= (nlN k : Nat) := by
 obtain rfl | rfl | rfl : k = 0 \/ k = 1 \/ k = 2 := by omega
 all_goals exact ⟨by kernel_rfl, by kernel_rfl, by decide, by decide, by decide⟩
theorem wpIn_meet {F : Fence} {n : Nat} {c : Code} {Q : Exit -> Act -> World -> Prop} {a : Act} {w : World} {A : Act} (P : World -> Prop) (h1 : ∀ K : Act -> World -> Prop, Hid (∀ w', P w' -> K A w') -> c.wpIn F n Tryz.prog (Exit.then K (fun _ _ _ => False)) a w) (h2 : ∀ w', P w' -> Q .normal A w') : c.wpIn F n Tryz.prog Q a w :=
 Go.wpIn_mono (h1 (fun a' w' => Q .normal a' w') (Lib.hid h2)) fun e a' w' h => by
  cases e <;> first | exact h | exact h.elim
def boxSz (w : World) (bs : Nat) : Nat := match w.cell? ⟨bs, 0, none⟩ with | some (.string s) => s.size | _ => 0
theorem boxSz_of {w : World} {bs : Nat} {s : ByteArray} (h : Boxed w bs 9 (.string s)) : boxSz w bs = s.size := by
 unfold boxSz
 rw [h.cell]
set_option maxRecDepth 100000 in
set_option maxHeartbeats 4000000 in
theorem lines_all (n : Nat) (hn : 2 <= n) (w : World) (l bs : Nat) (J : Nat -> World -> Prop)
  (hJs : ∀ k W v, J k W -> Boxed W bs 9 (.string (rsN k)) -> J k (W.setCell ⟨bs, 0, none⟩ v))
  (hJd : ∀ k W, J k W -> J k W.drew)
  (hY : ∀ k W, k < 3 -> J k W -> YieldAt Fence.wide (n - 1) Tryz.prog l #[.string (lnX3 k)] W fun e W' => e = .returned (.bool true) /\ J (k + 1) W' /\ W'.heap[bs]? = W.heap[bs]?)
  (h0 : J 0 w) (hb : Boxed w bs 9 (.string (rsN 0))) :
  CallsIn Fence.wide n Tryz.prog 137 #[.func (.yield l) #[] #[], .pointer (some ⟨bs, 0, none⟩)] w fun e w' => (∃ v, e = .returned v) /\ J 3 w' := by
 have HY := Lib.hid hY
 have HJ := Lib.hid hJs
 have HD := Lib.hid hJd
 clear hY hJs hJd
 refine callsIn_of_wp Tryz.func137 rfl trivial ?_ rfl
 simp only [Tryz.ntmps137, List.size_toArray, List.length_cons, List.length_nil, Nat.reduceAdd, Nat.reduceSub, Array.replicate_succ, Array.replicate_zero, List.push_toArray, List.append_toArray, List.nil_append, List.cons_append]
 gi_wp2
 gi_loopw [3] (fun i wr => ∃ k : Nat, k <= 3 /\ J k wr /\ Boxed wr bs 9 (.string (rsN k))) (fun i wr => boxSz wr bs)
 case atStart => exact ⟨0, by omega, h0, hb⟩
 case round =>
  obtain ⟨k, hk, hJ, hB⟩ := hrel
  clear h0 hb
  have hm := boxSz_of hB
  have c0 := hB.cell
  have f0 := hB.frozen
  by_cases hlt : k < 3
  ·obtain ⟨_, _, e3, e4, e5⟩ := cut_w k hlt wr
   have CN := Lib.hid (nl_w k hlt)
   have e1 : ∀ w, (Instr.slice 9 (.string (rsN k)) none (some (.int .i64 ((nlN k : Nat) + 1))) none).run Tryz.prog w = .ok (.string (lnX3 k)) w := fun w => (cut_w k hlt w).1
   have e2 : ∀ w, (Instr.slice 9 (.string (rsN k)) (some (.int .i64 ((nlN k : Nat) + 1))) none none).run Tryz.prog w = .ok (.string (rsN (k + 1))) w := fun w => (cut_w k hlt w).2.1
   have HB := Lib.hid hB
   have HJ1 := Lib.hid hJ
   clear hJ hB
   have e6 : (0 : Int) < ((rsN k).size : Nat) := by omega
   obtain ⟨nl, hnl⟩ : ∃ nl : Int, Hid ((nlN k : Nat) = nl) := ⟨_, Lib.hid rfl⟩
   rw [hnl.out] at e3 e5
   simp only [hnl.out] at e1 e2 CN
   gi_wp2_with (refine ⟨trivial, fun _ => by omega, ?_⟩; refine (callsIn_wide.2 (CN.out _)).mono ?_; rintro e w1 ⟨rfl, rfl⟩)
   refine wpIn_meet (A := { tmps := #[.func (.yield l) #[] #[], .pointer (some ⟨bs, 0, none⟩), undef, .string (lnX3 k), .int .i64 nl, .string (rsN k), .int .i64 (rsN k).size, .bool true, .string (rsN k), .int .i64 nl, .int .i64 nl, .bool true, .string (rsN k), .int .i64 nl, .int .i64 (nl + 1), .string (lnX3 k), .string (rsN k), .int .i64 nl, .int .i64 (nl + 1), .string (rsN (k + 1)), u20, u21, u22, u23, u24], defers := [] }) (fun w2 => J k w2 /\ Boxed w2 bs 9 (.string (rsN (k + 1)))) (fun K hK => ?_) ?_
   ·gi_region
    exact hK.out _ ⟨HD.out k _ (HJ.out k w1 _ HJ1.out HB.out), HB.out.set _⟩
   ·rintro W2 ⟨hJ2, hB2⟩
    obtain ⟨fn, tmps, assign, body, hy, hR⟩ := HY.out k _ hlt hJ2
    have HR := Lib.hid hR
    have hsz : (rsN (k + 1)).size < (rsN k).size := by
     obtain rfl | rfl | rfl : k = 0 \/ k = 1 \/ k = 2 := by omega
     all_goals decide
    clear hR hJ2
    gi_wp2
    refine ⟨fun _ => by omega, HR.out.mono ?_⟩
    rintro e W3 ⟨rfl, hJ3, hk3⟩
    have hB3 : Boxed W3 bs 9 (.string (rsN (k + 1))) := hk3.trans hB2
    clear hy hk3
    gi_wp2
    exact ⟨⟨k + 1, by omega, hJ3, hB3⟩, by rw [boxSz_of hB3, hm]; exact hsz⟩
  ·obtain rfl : k = 3 := by omega
   have e6 : (rsN 3).size = 0 := rfl
   gi_wp2
   go_end0
   exact ⟨⟨_, rfl⟩, hJ⟩
end
end Go.Proofs.YtdobjciaikofdaaGreatDoor
