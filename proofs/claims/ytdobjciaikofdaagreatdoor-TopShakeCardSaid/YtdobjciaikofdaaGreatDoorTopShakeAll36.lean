/- Part 36 of 39 of what the proof of this law needs. Put together by a program out of the texts: CwF CwG CwH CwI Hw. -/
import Derived.Test.YtdobjciaikofdaaGreatDoorTopShakeAll35
namespace Go.Proofs.YtdobjciaikofdaaGreatDoor
section
open Go Go.Conc Go.RowKit Go.Shelf Bt
structure GW (w : World) : Prop where
 t : Tabs w
 k : TabK w
 m : ∃ m : Int, w.cell? ⟨6, 0, none⟩ = some (.int .i64 m)
 tame : ∀ g, niceG.contains g = true -> Tame w g
theorem GW.kept {w w1 : World} (h : GW w) (k : Kept w w1) : GW w1 := by
 obtain ⟨m, hm⟩ := h.m
 exact ⟨h.t.below k.bel, h.k.below (Nat.le_refl _) k.bel, ⟨m, k.cell hm⟩, fun g hg => (h.tame g hg).kept k⟩
theorem GW.big {w : World} (h : GW w) : 21 <= w.heap.size := by
 obtain ⟨_, _, _, h1⟩ := h.tame 20 rfl
 have := (Array.getElem?_eq_some_iff.1 h1).1
 omega
structure RB (w0 w : World) (v3 vb : Value) (db mb b : Nat) (vr : Value) (bs : List Value) : Prop where
 kp : Kept w0 w
 row : w.ownsRow w0.heap.size 108 9 v3 3 (rowsN vb 3)
 byt : owns w w0.heap.size 5 .u8 vb 3 (fun j => (abcC j : Int))
 lo3 : ∀ g, v3.ownBlock = some g -> g < b
 lob : ∀ g, vb.ownBlock = some g -> g < b
 bd : BdV b b vr bs w
 d1 : w0.heap.size <= mb /\ mb < db /\ db < b
def StD (w : World) (db mb b : Nat) (vr : Value) (k : Nat) : Prop :=
 (k = 0 /\ Dk w db mb 0 #[] 0) \/ (0 < k /\ ∃ hb sb n1 n2, b < sb /\ sb < hb /\ Dk w db mb 1 #[⟨.int .i64 1, .pointer (some ⟨hb, 0, none⟩), 0⟩] 1 /\ Hs w hb 8 n1 n2 sb /\ Sp w sb (if k = 1 then freshS 8 else abcS) /\ vr.ownBlock ≠ some sb)
def oS (k : Nat) : ByteArray := if k = 0 then decW 1 else if k = 1 then decW 3 else hexS
theorem row_kept {w w1 : World} {base s : Nat} {t : TypeId} {v : Value} {n : Nat} {xs : List Value} (h : w.ownsRow base t s v n xs) (hk : ∀ g, v.ownBlock = some g -> w1.heap[g]? = w.heap[g]?) : w1.ownsRow base t s v n xs := by
 refine ⟨h.1, ?_⟩
 rcases h.2 with h0 | ⟨g, cap, cur, rfl, hb, hg, r⟩
 ·exact .inl h0
 ·exact .inr ⟨g, cap, cur, rfl, hb, (hk g rfl).trans hg, r⟩
theorem row_lt {w : World} {base s : Nat} {t : TypeId} {v : Value} {n : Nat} {xs : List Value} (h : w.ownsRow base t s v n xs) {g : Nat} (e : v.ownBlock = some g) : g < w.heap.size := by
 rcases h.2 with ⟨rfl, _⟩ | ⟨g', cap, cur, rfl, hb, hg, r⟩
 ·cases e
 ·have e2 : some g' = some g := e
  cases e2
  exact (Array.getElem?_eq_some_iff.1 hg).1
theorem RB.keep {w0 w w1 : World} {v3 vb : Value} {db mb b : Nat} {vr : Value} {bs : List Value} (h : RB w0 w v3 vb db mb b vr bs) {L : List Nat} (c : Chg w w1 L) (hL : ∀ x ∈ L, w0.heap.size <= x /\ x ≠ b /\ v3.ownBlock ≠ some x /\ vb.ownBlock ≠ some x /\ vr.ownBlock ≠ some x) : RB w0 w1 v3 vb db mb b vr bs where
 kp := ⟨c.os.trans h.kp.os, c.output.trans h.kp.output, c.tape.trans h.kp.tape, Nat.le_trans h.kp.size c.size, fun x hx => (c.keep x (Nat.lt_of_lt_of_le hx h.kp.size) (fun hm => by have := (hL x hm).1; omega)).trans (h.kp.keep x hx)⟩
 row := row_kept h.row fun g e => c.keep g (row_lt h.row e) fun hm => (hL g hm).2.2.1 e
 byt := row_kept h.byt fun g e => c.keep g (row_lt h.byt e) fun hm => (hL g hm).2.2.2.1 e
 lo3 := h.lo3
 lob := h.lob
 bd := by
  obtain ⟨p, _, hb⟩ := h.bd.2.1
  exact h.bd.keep (c.keep b (Array.getElem?_eq_some_iff.1 hb).1 fun hm => (hL b hm).2.1 rfl) fun g e => c.keep g (row_lt h.bd.2.2.1 e) fun hm => (hL g hm).2.2.2.2 e
 d1 := h.d1
section
variable {w W W1 w1 : World}
theorem Saw.any (h : Saw w W W1 w1) {b : Nat} {o : Obj} (hb : W1.heap[b]? = some o) (ho : o ≠ .coro none) : w1.heap[b]? = some o := veil_new h.seen.veil hb ho
theorem Saw.chg {L : List Nat} (h : Saw w W W1 w1) (hb : Chg W W1 L) : Chg w w1 L := by
 obtain ⟨Tp, e⟩ := h.beg
 have hsz : W.heap.size = w.heap.size := by rw [e, size_veiled]
 exact ⟨by rw [h.seen.veil.os, hb.os, e]; rfl, by rw [h.seen.veil.output, hb.output, e]; rfl, h.seen.tape, h.seen.size, fun k hk hr => keep_back e h.seen.veil (hb.keep k (by omega) hr)⟩
theorem Alone.tabs (h : Alone w W) (t : Tabs w) : Tabs W := ⟨⟨fun a ha => h.cell (t.e.word a ha), fun a ha => h.cell (t.e.kind a ha), fun a ha => h.cell (t.e.dig a ha), fun a ha => h.cell (t.e.blk a ha)⟩, ⟨h.cell t.r.c0, h.cell t.r.c1, h.cell t.r.c2, h.cell t.r.c3⟩⟩
theorem Alone.tabK (h : Alone w W) (t : TabK w) : TabK W := ⟨fun j hj => h.cell (t.off j hj), fun j hj => h.cell (t.rc j hj)⟩
theorem Alone.dk (h : Alone w W) {db mb last : Nat} {es : Array MapEntry} {ck : Nat} (d : Dk w db mb last es ck) : Dk W db mb last es ck := ⟨h.obj _ _ d.d rfl, h.obj _ _ d.m rfl⟩
theorem Saw.dk (h : Saw w W W1 w1) {db mb last : Nat} {es : Array MapEntry} {ck : Nat} (d : Dk W1 db mb last es ck) : Dk w1 db mb last es ck := ⟨h.any d.d (by simp), h.any d.m (by simp)⟩
theorem Saw.sp (h : Saw w W W1 w1) {b : Nat} {s : Spg} (d : Sp W1 b s) : Sp w1 b s := by
 obtain ⟨t, fr, h1, h2⟩ := d
 exact ⟨t, fr, h.any h1 (by simp), h2⟩
theorem Alone.sp (h : Alone w W) {b : Nat} {s : Spg} (d : Sp w b s) : Sp W b s := by
 obtain ⟨t, fr, h1, h2⟩ := d
 exact ⟨t, fr, h.obj _ _ h1 rfl, h2⟩
theorem Alone.reads (h : Alone w W) {p : Option Addr} {n : Nat} {k : IntKind} {f : Nat -> Int} (d : reads w p n k f) : reads W p n k f := by
 intro hn
 obtain ⟨b, o, e, hc⟩ := d hn
 exact ⟨b, o, e, fun j hj => h.cell (hc j hj)⟩
end
theorem freshS_ok (a : Nat) (ha : a < 15) (hk : 2 <= kindC a) : (freshS a).Ok /\ (freshS a).at_ = 0 /\ (freshS a).rd = false /\ 0 < (freshS a).rate := by
 have hs : a = 7 \/ a = 8 \/ a = 9 \/ a = 10 \/ a = 11 \/ a = 12 \/ a = 13 \/ a = 14 := by
  obtain rfl | rfl | rfl | rfl | rfl | rfl | rfl | rfl | rfl | rfl | rfl | rfl | rfl | rfl | rfl : a = 0 \/ a = 1 \/ a = 2 \/ a = 3 \/ a = 4 \/ a = 5 \/ a = 6 \/ a = 7 \/ a = 8 \/ a = 9 \/ a = 10 \/ a = 11 \/ a = 12 \/ a = 13 \/ a = 14 := by omega
  all_goals first | omega | (exfalso; revert hk; decide)
 obtain rfl | rfl | rfl | rfl | rfl | rfl | rfl | rfl := hs
 all_goals exact ⟨⟨fun j _ => by show 0 < _; decide, by decide, by decide, by decide, by decide⟩, rfl, rfl, by decide⟩
theorem abcC_lt (i : Nat) : abcC i < 256 := by have := abcR i; omega
theorem abcS_ok : abcS.Ok := ⟨fun j _ => (lanX_is _ _ _ _ (fun i _ => abcC_lt i) j).2, by decide, by decide, by decide, by decide⟩
section
variable {w0 w : World} {v3 vb : Value} {db mb b : Nat} {vr : Value} {bs : List Value}
theorem RB.lt (h : RB w0 w v3 vb db mb b vr bs) : b < w.heap.size := by
 obtain ⟨p, _, hb⟩ := h.bd.2.1
 exact (Array.getElem?_eq_some_iff.1 hb).1
set_option maxRecDepth 100000 in
theorem one_0 (g0 : GW w0) (hR : RB w0 w v3 vb db mb b vr bs) (hD : StD w db mb b vr 0) : CoCalls 55 #[.pointer (some ⟨db, 0, none⟩), .agg (cN 0 vb)] w fun v w' => v = .string (oS 0) /\ RB w0 w' v3 vb db mb b vr bs /\ StD w' db mb b vr 1 := by
 have hD : Dk w db mb 0 #[] 0 := by
  rcases hD with ⟨_, h⟩ | ⟨h, _⟩
  ·exact h
  ·omega
 have gw := g0.kept hR.kp
 have hbl := hR.lt
 refine one_co (i := 0) (f := 145) (line := lineA) (kind := 1) (h := 0) (alg := 8) (n := 0) (b := nilS) (by rfl) Tryz.func145 rfl (by kernel_rfl) (fun W w1 hW hk => ?_) _ (fun w1 hk => ?_)
 ·obtain ⟨m, hm⟩ := (gw.kept hk).m
  exact printA_w W (hW.tabs (gw.kept hk).t).e (hW.cell hm)
 ·refine CoCalls.lone (fun W v W1 => v = .string (decW 1) /\ ∃ hb sb n1 n2, W.heap.size <= sb /\ sb < hb /\ Dk W1 db mb 1 #[⟨.int .i64 1, .pointer (some ⟨hb, 0, none⟩), 0⟩] 1 /\ Hs W1 hb 8 n1 n2 sb /\ Sp W1 sb (freshS 8) /\ Chg W W1 [db, mb]) (fun W hW => (ways1_w db mb (by have := hR.d1; omega) W (hW.dk (hD.below hk.bel)) (hW.tabs (gw.kept hk).t)).mono fun e W' h => ⟨_, h.1, rfl, h.2⟩) ?_
  rintro Tp v W1 w2 ⟨rfl, hb, sb, n1, n2, q1, q2, q3, q4, q5, q6⟩ S1
  have S2 : Saw w1 _ W1 w2 := ⟨S1, Tp, rfl⟩
  have c1 : Chg w w2 [db, mb] := (hk.chg [db, mb]).trans (S2.chg q6)
  rw [size_veiled] at q1
  have hs1 := hk.size
  have hd1 := hR.d1
  refine ⟨rfl, hR.keep c1 fun x hx => ?_, .inr ⟨by decide, hb, sb, n1, n2, by omega, q2, S2.dk q3, S2.cells q4, S2.sp q5, fun e => ?_⟩⟩
  ·have hx : x = db \/ x = mb := by simpa using hx
   have hdd := hD.d
   have hdm := hD.m
   refine ⟨by omega, by omega, fun e => ?_, fun e => ?_, fun e => ?_⟩
   ·rcases hR.row.2 with ⟨rfl, _⟩ | ⟨g', cap, cur, rfl, _, hg, _⟩
    ·cases e
    ·have e2 : some g' = some x := e
     cases e2
     rcases hx with rfl | rfl
     ·rw [hdd] at hg; cases hg
     ·rw [hdm] at hg; cases hg
   ·rcases hR.byt.2 with ⟨rfl, _⟩ | ⟨g', cap, cur, rfl, _, hg, _⟩
    ·cases e
    ·have e2 : some g' = some x := e
     cases e2
     rcases hx with rfl | rfl
     ·rw [hdd] at hg; cases hg
     ·rw [hdm] at hg; cases hg
   ·have := (hR.bd.row e).1
    omega
  ·have := row_lt hR.bd.2.2.1 e
   omega
set_option maxRecDepth 100000 in
theorem one_1 (g0 : GW w0) (hR : RB w0 w v3 vb db mb b vr bs) (hD : StD w db mb b vr 1) : CoCalls 55 #[.pointer (some ⟨db, 0, none⟩), .agg (cN 1 vb)] w fun v w' => v = .string (oS 1) /\ RB w0 w' v3 vb db mb b vr bs /\ StD w' db mb b vr 2 := by
 obtain ⟨hb, sb, n1, n2, q1, q2, q3, q4, q5, q6⟩ : ∃ hb sb n1 n2, b < sb /\ sb < hb /\ Dk w db mb 1 #[⟨.int .i64 1, .pointer (some ⟨hb, 0, none⟩), 0⟩] 1 /\ Hs w hb 8 n1 n2 sb /\ Sp w sb (freshS 8) /\ vr.ownBlock ≠ some sb := by
  rcases hD with ⟨h, _⟩ | ⟨_, h⟩
  ·omega
  ·exact h
 have gw := g0.kept hR.kp
 have hbig := g0.big
 have hbl := hR.lt
 have hd1 := hR.d1
 obtain ⟨gb, cap, rfl⟩ := ownsRow_succ hR.byt
 obtain ⟨a9, c9, e9, hc9, _, hrd⟩ := owns_reads hR.byt
 cases e9
 have hgl := hR.lob gb rfl
 obtain ⟨gc, hgc⟩ : ∃ cur, w.heap[gb]? = some (.cells cur 5 (0, 0)) := by
  rcases hR.byt.2 with ⟨h, _⟩ | ⟨g', cap', cur, h, _, hg, _⟩
  ·cases h
  ·cases h
   exact ⟨_, hg⟩
 have hgb0 : w0.heap.size <= gb := by
  rcases hR.byt.2 with ⟨h, _⟩ | ⟨g', cap', cur, h, hl, _⟩
  ·cases h
  ·cases h
   exact hl
 have hin : ∀ i, i < 3 -> w.cell? ⟨gb, 0 + i, none⟩ = some (.int .u8 (abcC i)) := fun i hi => by
  obtain ⟨b', o', e, hc⟩ := hrd (by omega)
  cases e
  exact hc i hi
 obtain ⟨f1, f2, f3, f4⟩ := freshS_ok 8 (by decide) (by decide)
 refine one_co (i := 3) (f := 152) (line := lineB) (kind := 4) (h := 1) (alg := 0) (n := 0) (b := .slice (some ⟨gb, 0, none⟩) 3 cap) (by rfl) Tryz.func152 rfl (by kernel_rfl) (fun W w1 hW hk => ?_) _ (fun w1 hk => ?_)
 ·obtain ⟨m, hm⟩ := (gw.kept hk).m
  exact printB_w _ _ W (hW.reads (reads_below (Nat.le_refl _) hk.bel hrd)) (hW.tabs (gw.kept hk).t).e (hW.cell hm)
 ·have W0 : WGround sb gb 0 3 abcC (freshS 8) w := ⟨q5, gw.k, gw.tame, ⟨_, _, _, hgc⟩, hin, by simp [LsU]; omega, f1, by omega, fun i _ => abcC_lt i⟩
  refine (ways4_co (cap := cap) (a0 := some ⟨gb, 0, none⟩) (q3.below hk.bel) ((hk.keep _ (Array.getElem?_eq_some_iff.1 q4).1).trans q4) (W0.kept hk) f3 hc9 (fun _ => rfl) (by decide)).mono ?_
  rintro v w2 ⟨rfl, c0, s', hs', hS⟩
  have c1 : Chg w w2 [sb] := (hk.chg [sb]).trans c0
  rw [wrote_abc hs'] at hS
  have hs1 := hk.size
  have hl2 := q5.lt
  refine ⟨rfl, hR.keep c1 fun x hx => ?_, .inr ⟨by decide, hb, sb, n1, n2, q1, q2, q3.kept fun k hk hh => c1.keep k hk fun hm => ?_, ?_, hS, q6⟩⟩
  ·obtain rfl : x = sb := by simpa using hx
   refine ⟨by omega, by omega, fun e => ?_, fun e => ?_, q6⟩
   ·have := hR.lo3 _ e
    omega
   ·have := hR.lob _ e
    omega
  ·obtain rfl : k = sb := by simpa using hm
   obtain ⟨t, fr, h1, h2⟩ := q5
   rcases hh with hh | hh
   ·rw [h1] at hh
    have e := congrArg Array.size (Obj.cells.inj (Option.some.inj hh)).1
    rw [spC_size] at e
    cases e
   ·rw [h1] at hh; cases hh
  ·exact (c1.keep hb (Array.getElem?_eq_some_iff.1 q4).1 (by simp; omega)).trans q4
set_option maxRecDepth 100000 in
theorem one_2 (g0 : GW w0) (hR : RB w0 w v3 vb db mb b vr bs) (hD : StD w db mb b vr 2) : CoCalls 55 #[.pointer (some ⟨db, 0, none⟩), .agg (cN 2 vb)] w fun v w' => v = .string (oS 2) /\ RB w0 w' v3 vb db mb b vr bs := by
 obtain ⟨hb, sb, n1, n2, q1, q2, q3, q4, q5, q6⟩ : ∃ hb sb n1 n2, b < sb /\ sb < hb /\ Dk w db mb 1 #[⟨.int .i64 1, .pointer (some ⟨hb, 0, none⟩), 0⟩] 1 /\ Hs w hb 8 n1 n2 sb /\ Sp w sb abcS /\ vr.ownBlock ≠ some sb := by
  rcases hD with ⟨h, _⟩ | ⟨_, h⟩
  ·omega
  ·exact h
 have gw := g0.kept hR.kp
 obtain ⟨x1, x2⟩ := hex_abc
 refine one_co (i := 4) (f := 154) (line := lineC) (kind := 5) (h := 1) (alg := 0) (n := 0) (b := nilS) (by rfl) Tryz.func154 rfl (by kernel_rfl) (fun W w1 hW hk => ?_) _ (fun w1 hk => ?_)
 ·obtain ⟨m, hm⟩ := (gw.kept hk).m
  exact printC_w W (hW.tabs (gw.kept hk).t).e (hW.cell hm)
 ·refine CoCalls.lone (fun W v W1 => v = .string hexS /\ Below W.heap.size W W1) (fun W hW => (ways5_w db mb 0 W (hW.dk (q3.below hk.bel)) ⟨⟨n1, n2, hW.obj _ _ ((hk.keep _ (Array.getElem?_eq_some_iff.1 q4).1).trans q4) rfl⟩, hW.sp (q5.below (Nat.le_refl _) hk.bel), abcS_ok, rfl⟩ (hW.tabs (gw.kept hk).t) (hW.tabK (gw.kept hk).k) x2).mono fun e W' h => ⟨_, h.1, by rw [x1], h.2⟩) ?_
  rintro Tp v W1 w2 ⟨rfl, hB⟩ S1
  have S2 : Saw w1 _ W1 w2 := ⟨S1, Tp, rfl⟩
  exact ⟨rfl, hR.keep ((hk.trans (S2.kept hB)).chg []) fun x hx => by cases hx⟩
end
end
section
open Go Go.Conc Go.RowKit Go.Shelf Bt
def lineO (k : Nat) : ByteArray := oS k ++ ⟨#[10]⟩
def bsN : Nat -> List Value
 | 0 => []
 | k + 1 => bsN k ++ Lib.strCells (lineO k)
section
variable {w0 w : World} {v3 vb : Value} {db mb b : Nat} {vr : Value} {bs : List Value}
theorem one_any (g0 : GW w0) {k : Nat} (hk : k < 3) (hR : RB w0 w v3 vb db mb b vr bs) (hD : StD w db mb b vr k) : CoCalls 55 #[.pointer (some ⟨db, 0, none⟩), .agg (cN k vb)] w fun v w' => v = .string (oS k) /\ RB w0 w' v3 vb db mb b vr bs /\ (k + 1 < 3 -> StD w' db mb b vr (k + 1)) := by
 obtain rfl | rfl | rfl : k = 0 \/ k = 1 \/ k = 2 := by omega
 ·exact (one_0 g0 hR hD).mono fun v w' h => ⟨h.1, h.2.1, fun _ => h.2.2⟩
 ·exact (one_1 g0 hR hD).mono fun v w' h => ⟨h.1, h.2.1, fun _ => h.2.2⟩
 ·exact (one_2 g0 hR hD).mono fun v w' h => ⟨h.1, h.2, fun h => by omega⟩
theorem RB.kept {w1 : World} (h : RB w0 w v3 vb db mb b vr bs) (k : Kept w w1) : RB w0 w1 v3 vb db mb b vr bs := h.keep (k.chg []) fun x hx => by cases hx
theorem StD.kept {w1 : World} {k : Nat} (h : StD w db mb b vr k) (kp : Kept w w1) : StD w1 db mb b vr k := by
 rcases h with ⟨h1, h2⟩ | ⟨h1, hb, sb, n1, n2, q1, q2, q3, q4, q5, q6⟩
 ·exact .inl ⟨h1, h2.below kp.bel⟩
 ·exact .inr ⟨h1, hb, sb, n1, n2, q1, q2, q3.below kp.bel, (kp.keep _ (Array.getElem?_eq_some_iff.1 q4).1).trans q4, q5.below (Nat.le_refl _) kp.bel, q6⟩
structure Wst (w w1 : World) (b : Nat) (vr : Value) : Prop where
 bl : Below b w w1
 keep : ∀ k, k < w.heap.size -> k ≠ b -> vr.ownBlock ≠ some k -> w1.heap[k]? = w.heap[k]?
theorem RB.wrote {w1 : World} {vr' : Value} {bs' : List Value} (h : RB w0 w v3 vb db mb b vr bs) (hw : Wst w w1 b vr) (hb : BdV b b vr' bs' w1) : RB w0 w1 v3 vb db mb b vr' bs' where
 kp := by
  have hd := h.d1
  have hs := h.kp.size
  refine ⟨hw.bl.os.trans h.kp.os, hw.bl.output.trans h.kp.output, hw.bl.tape.trans h.kp.tape, ?_, fun x hx => (hw.bl.block x (by omega)).trans (h.kp.keep x hx)⟩
  rcases Nat.lt_or_ge w0.heap.size w1.heap.size with h1 | h1
  ·omega
  ·have h2 := h.lt
   obtain ⟨p, _, hbb⟩ := hb.2.1
   have := (Array.getElem?_eq_some_iff.1 hbb).1
   omega
 row := row_kept h.row fun g e => hw.bl.block g (h.lo3 g e)
 byt := row_kept h.byt fun g e => hw.bl.block g (h.lob g e)
 lo3 := h.lo3
 lob := h.lob
 bd := hb
 d1 := h.d1
theorem apartS {w1 : World} {vr' : Value} {bs' : List Value} {B sb : Nat} {s : Spg} (hb : BdV B b vr' bs' w1) {x : Int} (hx : bs'[0]? = some (.int .u8 x)) (hs : Sp w1 sb s) : vr'.ownBlock ≠ some sb := by
 intro e
 obtain ⟨_, cur, hc, h0⟩ := hb.row e
 obtain ⟨t, fr, h1, _⟩ := hs
 rw [h1] at hc
 have e2 := (Obj.cells.inj (Option.some.inj hc)).1
 have h3 := h0 (List.getElem?_eq_some_iff.1 hx).1
 rw [hx, <- e2] at h3
 cases h3
theorem StD.wrote {w1 : World} {vr' : Value} {bs' : List Value} {k : Nat} (h : StD w db mb b vr k) (h0 : 0 < k) (hR : RB w0 w v3 vb db mb b vr bs) (hw : Wst w w1 b vr) (hb : BdV b b vr' bs' w1) {x : Int} (hx : bs'[0]? = some (.int .u8 x)) : StD w1 db mb b vr' k := by
 rcases h with ⟨h1, h2⟩ | ⟨h1, hb', sb, n1, n2, q1, q2, q3, q4, q5, q6⟩
 ·omega
 ·have hd := hR.d1
  have hrow : ∀ g, vr.ownBlock = some g -> b <= g /\ ∃ cur, w.heap[g]? = some (.cells cur 5 (0, 0)) := fun g e => ⟨(hR.bd.row e).1, (hR.bd.row e).2.choose, (hR.bd.row e).2.choose_spec.1⟩
  have q4' : w1.heap[hb']? = w.heap[hb']? := hw.keep _ (Array.getElem?_eq_some_iff.1 q4).1 (by omega) fun e => by
   obtain ⟨_, cur, hc⟩ := hrow _ e
   rw [q4] at hc
   cases hc
  have q5' : Sp w1 sb (if k = 1 then freshS 8 else abcS) := by
   obtain ⟨t, fr, z1, z2⟩ := q5
   exact ⟨t, fr, (hw.keep _ (Array.getElem?_eq_some_iff.1 z1).1 (by omega) q6).trans z1, z2⟩
  exact .inr ⟨h1, hb', sb, n1, n2, q1, q2, ⟨(hw.bl.block db (by omega)).trans q3.d, (hw.bl.block mb (by omega)).trans q3.m⟩, q4'.trans q4, q5', apartS hb hx q5'⟩
theorem rowsN_at (v : Value) (k : Nat) (hk : k < 3) (j : Nat) (hj : j < 9) : (rowsN v 3)[9 * k + j]? = (cN k v)[j]? := by
 obtain rfl | rfl | rfl : k = 0 \/ k = 1 \/ k = 2 := by omega
 all_goals
  obtain rfl | rfl | rfl | rfl | rfl | rfl | rfl | rfl | rfl : j = 0 \/ j = 1 \/ j = 2 \/ j = 3 \/ j = 4 \/ j = 5 \/ j = 6 \/ j = 7 \/ j = 8 := by omega
  all_goals rfl
theorem load_call {g cap base : Nat} (h : w.ownsRow base 108 9 (.slice (some ⟨g, 0, none⟩) 3 cap) 3 (rowsN vb 3)) (k : Nat) (hk : k < 3) : (loadRow ⟨g, 9 * k, none⟩ 9).run Tryz.prog w = .ok (cN k vb) w := by
 unfold loadRow
 have := run_loadCells_list (P := Tryz.prog) w ⟨g, 9 * k, none⟩ (cN k vb).toList (fun j x hj => by
  have hj9 : j < 9 := (List.getElem?_eq_some_iff.1 hj).1
  rw [Addr.add_lit, h.cellAt _ (by omega), rowsN_at vb k hk j hj9]
  simpa using hj)
 simpa [cN_size] using this
theorem Alone.row {W : World} (h : Alone w W) {base s : Nat} {t : TypeId} {v : Value} {n : Nat} {xs : List Value} (ho : w.ownsRow base t s v n xs) : W.ownsRow base t s v n xs := by
 refine ⟨ho.1, ?_⟩
 rcases ho.2 with h0 | ⟨g, cap, cur, rfl, hb, hg, r⟩
 ·exact .inl h0
 ·exact .inr ⟨g, cap, cur, rfl, hb, h.obj _ _ hg rfl, r⟩
theorem Alone.bd {W : World} (h : Alone w W) (ho : BdV b b vr bs w) : BdV b b vr bs W := by
 obtain ⟨h1, ⟨p, h2, h3⟩, h4, h5⟩ := ho
 exact ⟨h1, ⟨p, h2, h.obj _ _ h3 rfl⟩, h.row h4, h5⟩
theorem Saw.bd {W W1 w1 : World} (h : Saw w W W1 w1) (ho : BdV b b vr bs W1) : BdV b b vr bs w1 := by
 obtain ⟨h1, ⟨p, h2, h3⟩, h4, h5⟩ := ho
 refine ⟨h1, ⟨p, h2, h.cells h3⟩, ⟨h4.1, ?_⟩, h5⟩
 rcases h4.2 with h0 | ⟨g, cap, cur, rfl, hb, hg, r⟩
 ·exact .inl h0
 ·exact .inr ⟨g, cap, cur, rfl, hb, h.cells hg, r⟩
theorem row_saw {W W1 w1 : World} (h : Saw w W W1 w1) {base s : Nat} {t : TypeId} {v : Value} {n : Nat} {xs : List Value} (ho : W1.ownsRow base t s v n xs) : w1.ownsRow base t s v n xs := by
 refine ⟨ho.1, ?_⟩
 rcases ho.2 with h0 | ⟨g, cap, cur, rfl, hb, hg, r⟩
 ·exact .inl h0
 ·exact .inr ⟨g, cap, cur, rfl, hb, h.cells hg, r⟩
theorem Saw.blb {W W1 w1 : World} (h : Saw w W W1 w1) (ho : Below b W W1) : Below b w w1 := by
 obtain ⟨Tp, e⟩ := h.beg
 have hsz : W.heap.size = w.heap.size := by rw [e, size_veiled]
 refine ⟨by rw [h.seen.veil.os, ho.os, e]; rfl, h.seen.tape, by rw [h.seen.veil.output, ho.output, e]; rfl, ?_, fun k hk => keep_back e h.seen.veil (ho.block k hk)⟩
 have := ho.size
 rw [h.size]
 omega
theorem Saw.wst {W W1 w1 : World} (h : Saw w W W1 w1) (ho : Wst W W1 b vr) : Wst w w1 b vr := by
 have hb := h.blb ho.bl
 obtain ⟨Tp, e⟩ := h.beg
 have hsz : W.heap.size = w.heap.size := by rw [e, size_veiled]
 refine ⟨hb, fun k hk h1 h2 => keep_back e h.seen.veil (ho.keep k (by omega) h1 h2)⟩
end
end
section
open Go Go.Conc Go.RowKit Go.Shelf Bt
attribute [local go_sem] lt_s2 lt_s3 lt_s4 lt_s5 lt_s6
attribute [local go_sem] hasRow_at hasRow_past run_storeRow Value.oneCell' setRow_at setRow_past
attribute [local go_sem ↓] loadRow_is storeRow_is
def outL : List UInt8 := [49, 10, 51, 10, 51, 97, 57, 56, 53, 100, 97, 55, 52, 102, 101, 50, 50, 53, 98, 50, 48, 52, 53, 99, 49, 55, 50, 100, 54, 98, 100, 51, 57, 48, 98, 100, 56, 53, 53, 102, 48, 56, 54, 101, 51, 101, 57, 100, 53, 50, 53, 98, 52, 54, 98, 102, 101, 50, 52, 53, 49, 49, 52, 51, 49, 53, 51, 50, 10]
theorem bsN3 : bsN 3 = Lib.byteCells outL := by kernel_rfl
theorem bsN_len (k : Nat) (hk : k < 3) : (bsN k).length + (oS k ++ (⟨#[10]⟩ : ByteArray)).size <= 140737488355328 := by
 obtain rfl | rfl | rfl : k = 0 \/ k = 1 \/ k = 2 := by omega
 all_goals exact Nat.le_of_ble_eq_true (by kernel_rfl)
theorem bsN_head (k : Nat) (hk : k < 3) : ∃ x : Int, (bsN (k + 1))[0]? = some (.int .u8 x) := by
 obtain rfl | rfl | rfl : k = 0 \/ k = 1 \/ k = 2 := by omega
 all_goals exact ⟨49, by kernel_rfl⟩
theorem oS_size (k : Nat) (hk : k < 3) : (oS k).size <= 64 := by
 obtain rfl | rfl | rfl : k = 0 \/ k = 1 \/ k = 2 := by omega
 all_goals exact Nat.le_of_ble_eq_true (by kernel_rfl)
set_option maxRecDepth 100000 in
set_option maxHeartbeats 8000000 in
theorem all_co {w0 : World} (g0 : GW w0) : CoCalls 21 #[.string (rsN 0)] w0 fun v w' => v = .string ⟨outL.toArray⟩ /\ Kept w0 w' := by
 refine CoCalls.body Tryz.func21 rfl rfl ?_
 simp only [Tryz.ntmps21, List.size_toArray, List.length_cons, List.length_nil, Nat.reduceAdd, Nat.reduceSub, Array.replicate_succ, Array.replicate_zero, List.push_toArray, List.append_toArray, List.nil_append, List.cons_append]
 obtain ⟨tx, htx⟩ : ∃ tx, Hid (tx = rsN 0) := ⟨_, Lib.hid rfl⟩
 rw [<- htx.out]
 refine wpC_still (by kernel_rfl) (by kernel_rfl) fun W hW K hK => ?_
 go_wp2
 refine hK.out _ (wpC_go (by kernel_rfl) (by kernel_rfl) fun W hW1 K hK => ?_)
 obtain ⟨m, hm⟩ := g0.m
 have CA := Lib.hid (all3_w W (hW1.tabs g0.t).e (hW1.cell hm))
 rw [<- htx.out] at CA
 go_wp2_with (go_at_call 51; (with_reducible refine CA.out.mono ?_); rintro e w' ⟨v, vb, rfl, q1, q2, q3⟩)
 rw [hW1.size] at q1 q2
 refine hK.out _ _ fun w1 S1 => ?_
 have k1 := S1.kept q3
 obtain ⟨g, cap, rfl⟩ := ownsRow_succ q1
 have q1' : w1.ownsRow w0.heap.size 108 9 (.slice (some ⟨g, 0, none⟩) 3 cap) 3 (rowsN vb 3) := row_saw S1 q1
 have q2' : owns w1 w0.heap.size 5 .u8 vb 3 (fun j => (abcC j : Int)) := row_saw S1 q2
 clear q1 q2 q3 CA hK hm
 refine wpC_still (by kernel_rfl) (by kernel_rfl) fun W hW K hK => ?_
 go_wp2
 refine hK.out _ (wpC_go (by kernel_rfl) (by kernel_rfl) fun W hW2 K hK => ?_)
 have CD := Lib.hid (dnew_w W)
 go_wp2_with (go_at_call 53; (with_reducible refine CD.out.mono ?_); rintro e w' ⟨rfl, d1, d2⟩)
 rw [hW2.size] at d1 ⊢
 refine hK.out _ _ fun w2 S2 => ?_
 have k2 := S2.kept d2
 have d1' := S2.dk d1
 clear d1 d2 CD hK
 refine wpC_go (by kernel_rfl) (by kernel_rfl) fun W hW3 K hK => ?_
 go_wp2
 rw [hW3.size]
 refine hK.out _ _ fun w3 S3 => ?_
 have k3 := S3.kept (bl_alloc (bl_refl W))
 have k03 := (k1.trans k2).trans k3
 have hb3 : w3.heap[w2.heap.size]? = some (.cells #[.pointer none, .slice none 0 0] 106 (0, 0)) := S3.cells (by rw [<- hW3.size]; exact heap_at _ _ _ rfl)
 have hs1 := k1.size
 have hs2 : w1.heap.size + 2 <= w2.heap.size := by have := (Array.getElem?_eq_some_iff.1 d1'.d).1; omega
 obtain ⟨gv, capv, rfl⟩ := ownsRow_succ q2'
 have hlg := row_lt q1' rfl
 have hlv := row_lt q2' rfl
 have R0 : RB w0 w3 (.slice (some ⟨g, 0, none⟩) 3 cap) (.slice (some ⟨gv, 0, none⟩) 3 capv) (w1.heap.size + 1) w1.heap.size w2.heap.size (.slice none 0 0) (bsN 0) := ⟨k03, row_kept q1' (fun g' e => by cases e; exact (k2.trans k3).keep _ hlg), row_kept q2' (fun g' e => by cases e; exact (k2.trans k3).keep _ hlv), fun g' e => by cases e; omega, fun g' e => by cases e; omega, ⟨Nat.le_refl _, ⟨_, .inl rfl, hb3⟩, ⟨rfl, .inl ⟨rfl, rfl⟩⟩, fun e => by cases e⟩, by omega, by omega, by omega⟩
 have D0 : StD w3 (w1.heap.size + 1) w1.heap.size w2.heap.size (.slice none 0 0) 0 := .inl ⟨rfl, d1'.below k3.bel⟩
 clear q1' q2' d1' hb3 k1 k2 k3 k03 hK
 refine wpC_seq (by kernel_rfl) (wpC_still (by kernel_rfl) (by kernel_rfl) fun W hW K hK => ?_)
 go_wp2
 refine hK.out _ (wpC_block (wpC_loop (N := 3) (by kernel_rfl) (fun N T w => ∃ (k : Nat) (vr u9 u27 u28 u29 u30 u31 u32 u33 u34 u35 : Value), k <= 3 /\ N = 3 - k /\ T = #[.string tx, undef, .string ⟨#[]⟩, .slice (some ⟨g, 0, none⟩) 3 cap, .int .i64 0, .int .i64 0, .pointer (some ⟨w1.heap.size + 1, 0, none⟩), .pointer (some ⟨w2.heap.size, 0, none⟩), undef, u9, .tuple #[.slice (some ⟨g, 0, none⟩) 3 cap, .int .i64 0, .int .i64 0], .string tx, .tuple #[.slice (some ⟨g, 0, none⟩) 3 cap, .int .i64 0, .int .i64 0], .slice (some ⟨g, 0, none⟩) 3 cap, .int .i64 0, .int .i64 0, .int .i64 0, .bool false, undef, undef, undef, undef, undef, .pointer (some ⟨w1.heap.size + 1, 0, none⟩), .slice (some ⟨g, 0, none⟩) 3 cap, .int .i64 3, .int .i64 (k : Nat), u27, u28, u29, u30, u31, u32, u33, u34, u35, undef] /\
  RB w0 w (.slice (some ⟨g, 0, none⟩) 3 cap) (.slice (some ⟨gv, 0, none⟩) 3 capv) (w1.heap.size + 1) w1.heap.size w2.heap.size vr (bsN k) /\ (k < 3 -> StD w (w1.heap.size + 1) w1.heap.size w2.heap.size vr k)) ?h0 ?round))
 case h0 => exact ⟨0, _, _, _, _, _, _, _, _, _, _, _, by omega, rfl, rfl, R0, fun _ => D0⟩
 case round =>
  clear R0 D0 hs1 hs2 hlg hlv hK
  rintro N T w ⟨k, vr, u9, u27, u28, u29, u30, u31, u32, u33, u34, u35, hk, rfl, rfl, R1, D1⟩
  refine wpC_still (by kernel_rfl) (by kernel_rfl) fun W hW K hK => ?_
  by_cases hlt : k < 3
  ·have hi : (k : Int) < 3 := by omega
   go_wp2
   refine hK.out _ (wpC_seq (by kernel_rfl) (wpC_cond rfl (wpC_skip (.inl ⟨rfl, ?_⟩))))
   refine wpC_seq (by kernel_rfl) (wpC_block ?_)
   refine wpC_go (by kernel_rfl) (by kernel_rfl) fun W hW K hK => ?_
   have L0 := load_call (hW.row R1.row) k hlt
   rw [Nat.mul_comm] at L0
   obtain ⟨bv, hbv⟩ : ∃ bv, (if k = 1 then (.slice (some ⟨gv, 0, none⟩) 3 capv : Value) else nilS) = bv := ⟨_, rfl⟩
   obtain ⟨ba, bn, bc, hb1⟩ : ∃ a n c, bv = .slice a n c := by rw [<- hbv]; split; exact ⟨_, _, _, rfl⟩; exact ⟨_, _, _, rfl⟩
   subst hb1
   obtain ⟨kd, hkd⟩ : ∃ kd, kdN k = kd := ⟨_, rfl⟩
   obtain ⟨hh, hhh⟩ : ∃ hh, hhN k = hh := ⟨_, rfl⟩
   obtain ⟨al, hal⟩ : ∃ al, alN k = al := ⟨_, rfl⟩
   have ec : cN k (.slice (some ⟨gv, 0, none⟩) 3 capv) = #[.int .i64 kd, .int .i64 hh, .int .i64 al, .int .i64 0, .slice none 0 0, .slice none 0 0, .slice ba bn bc, .int .u64 0, .int .u64 0] := by
    rw [<- hkd, <- hhh, <- hal]
    unfold cN
    rw [hbv]
    rfl
   rw [ec] at L0
   clear hbv hkd hhh hal
   go_wp2
   rw [hW.size]
   refine hK.out _ _ fun w4 S4 => ?_
   have k4 := S4.kept (bl_alloc (bl_refl W))
   have hc4 : Cl w4 w.heap.size (callC kd hh al 0 nilS nilS (.slice ba bn bc)) := S4.cells (by rw [<- hW.size]; exact heap_at _ _ _ rfl)
   have R4 := R1.kept k4
   have D4 := (D1 hlt).kept k4
   clear L0 R1 D1 hK
   refine wpC_region (wpO_still 0 2 (by decide) (by kernel_rfl) fun W hW K hK => ?_)
   have L1 := Cl.load (show Cl W w.heap.size (callC kd hh al 0 nilS nilS (.slice ba bn bc)) from hW.obj _ _ hc4 rfl)
   unfold callC callL nilS at L1
   simp only [List.take_succ_cons, List.take_zero, List.drop_zero]
   go_wp2
   refine hK.out _ (wpO_call (f := 55) (args := #[.pointer (some ⟨w1.heap.size + 1, 0, none⟩), .agg #[.int .i64 kd, .int .i64 hh, .int .i64 al, .int .i64 0, .slice none 0 0, .slice none 0 0, .slice ba bn bc, .int .u64 0, .int .u64 0]]) rfl rfl (fun w => ⟨?_, ?_⟩) ?_)
   ·go_simp
   ·unfold execOp
    simp [go_sem]
    exact (callFunc_run Tryz.func55 rfl (by kernel_rfl) _ _).2
   rw [<- ec]
   refine (one_any g0 hlt R4 D4).mono ?_
   rintro v w5 ⟨rfl, R5, D5⟩
   have hbl := R5.lt
   refine wpO_done 3 (by decide) (by kernel_rfl) fun W hW K hK => ?_
   have hos : ¬ 9223372036854775807 < (oS k).size + 1 := by have := oS_size k hlt; omega
   have CB := Lib.hid (writeString_v w2.heap.size w2.heap.size vr (bsN k) (oS k ++ ⟨#[10]⟩) W (hW.bd R5.bd) (bsN_len k hlt) (by rw [hW.size]; omega))
   simp only [List.drop_succ_cons, List.drop_zero]
   go_wp2_with (go_at_call 54; (refine CB.out.mono ?_); rintro e w' ⟨rfl, ⟨vr', b1⟩, b2, b3⟩)
   refine hK.out _ _ fun w6 S6 => ?_
   have w56 : Wst w5 w6 w2.heap.size vr := S6.wst ⟨b2, b3⟩
   have b1' : BdV w2.heap.size w2.heap.size vr' (bsN (k + 1)) w6 := S6.bd b1
   have R6 := R5.wrote w56 b1'
   have D6 : k + 1 < 3 -> StD w6 (w1.heap.size + 1) w1.heap.size w2.heap.size vr' (k + 1) := fun h => by
    obtain ⟨x, hx⟩ := bsN_head k hlt
    exact (D5 h).wrote (by omega) R5 w56 b1' hx
   clear hK CB b1 b2 b3 S6
   refine .inl ⟨by simp, .inl ⟨by trivial, wpC_region (wpO_done 0 (by decide) (by kernel_rfl) fun W hW K hK => ?_)⟩⟩
   have ew : IntKind.i64.wrap ((k : Int) + 1) = ((k + 1 : Nat) : Int) := by rw [IntKind.wrap_i64]; omega
   simp only [List.drop_zero]
   go_wp2
   refine hK.out _ _ fun w7 S7 => ?_
   have k7 : Kept w6 w7 := S7.kept (bl_refl W)
   exact .inl ⟨by trivial, 3 - (k + 1), by omega, k + 1, vr', _, _, _, _, _, _, _, _, _, _, by omega, rfl, rfl, R6.kept k7, fun h => (D6 h).kept k7⟩
  ·obtain rfl : k = 3 := by omega
   go_wp2
   refine hK.out _ (wpC_seq (by kernel_rfl) (wpC_cond rfl (wpC_exit (.inr ⟨by simp, .inr ⟨by simp, .inl ⟨.inr rfl, .inl ⟨by trivial, ?_⟩⟩⟩⟩))))
   refine wpC_go (by kernel_rfl) (by kernel_rfl) fun W hW K hK => ?_
   have hbl := R1.lt
   have hbb := (hW.bd R1.bd).bd
   rw [bsN3] at hbb
   have CS := Lib.hid (Tryz.Builder_String_any w2.heap.size w2.heap.size outL W hbb (by rw [hW.size]; omega))
   go_wp2_with (go_at_call 56; (refine CS.out.mono ?_); rintro e w' ⟨rfl, b2⟩)
   refine hK.out _ _ fun w9 S9 => ?_
   have b9 := S9.blb b2
   have hd := R1.d1
   refine wpC_ret ⟨rfl, .string ⟨outL.toArray⟩, fun W _ => ?_, rfl, b9.os.trans R1.kp.os, b9.output.trans R1.kp.output, b9.tape.trans R1.kp.tape, Nat.le_trans R1.kp.size ?_, fun x hx => (b9.block x (by omega)).trans (R1.kp.keep x hx)⟩
   ·rw [results_tmp rfl]
    rfl
   ·exact b9.size
end
section
open Go Go.Conc Go.RowKit Go.Shelf Bt
set_option maxRecDepth 100000 in
theorem wakes_co {w0 : World} (g0 : GW w0) : CoCalls 6 #[] w0 fun v w' => v = .bool true /\ Kept w0 w' := by
 refine CoCalls.body Tryz.func6 rfl rfl ?_
 simp only [Tryz.ntmps6, List.size_toArray, List.length_cons, List.length_nil, Nat.reduceAdd, Nat.reduceSub, Array.replicate_succ, Array.replicate_zero, List.push_toArray, List.append_toArray, List.nil_append, List.cons_append]
 refine wpC_still (by kernel_rfl) (by kernel_rfl) fun W hW K hK => ?_
 go_wp2
 refine hK.out _ (wpC_seq (by kernel_rfl) (wpC_region (wpO_call (n := 0) (f := 21) (args := #[.string (rsN 0)]) rfl rfl (fun w => ⟨?_, ?_⟩) ?_)))
 ·go_simp
  rfl
 ·unfold execOp
  simp [go_sem]
  exact (callFunc_run Tryz.func21 rfl (by kernel_rfl) _ _).2
 refine (all_co g0).mono ?_
 rintro v w1 ⟨rfl, k1⟩
 refine wpO_done 1 (by decide) (by kernel_rfl) fun W hW K hK => ?_
 have hq : ((⟨outL.toArray⟩ : ByteArray).toList == (⟨([49, 10, 51, 10, 51, 97, 57, 56, 53, 100, 97, 55, 52, 102, 101, 50, 50, 53, 98, 50, 48, 52, 53, 99, 49, 55, 50, 100, 54, 98, 100, 51, 57, 48].append [98, 100, 56, 53, 53, 102, 48, 56, 54, 101, 51, 101, 57, 100, 53, 50, 53, 98, 52, 54, 98, 102, 101, 50, 52, 53, 49, 49, 52, 51, 49, 53, 51, 50, 10]).toArray⟩ : ByteArray).toList) = true := by kernel_rfl
 simp only [List.drop_succ_cons, List.drop_zero]
 go_wp2
 refine hK.out _ _ fun w2 S2 => ?_
 rw [S2.same]
 refine .inl ⟨by trivial, wpC_at (wpC_ret ⟨rfl, .bool true, fun W _ => ?_, rfl, k1⟩)⟩
 rw [results_tmp rfl]
 rfl
end
section
open Go.RowKit Go.Shelf Bt
attribute [local go_sem] lt_s2 lt_s3 lt_s4 lt_s5 lt_s6
structure Pcs (w : World) (a : Option Addr) (n : Nat) (A : Nat -> Option Addr) (L C : Nat -> Nat) (F : Nat -> Nat -> Nat) : Prop where
 at_ : 0 < n -> ∃ b o, a = some ⟨b, o, none⟩ /\ ∀ i, i < n -> w.cell? ⟨b, o + i, none⟩ = some (.slice (A i) (L i) (C i))
 rd : ∀ i, i < n -> reads w (A i) (L i) .u8 (fun j => (F i j : Int))
 le : ∀ i, i < n -> L i <= C i
 lt : ∀ i, i < n -> ∀ j, j < L i -> F i j < 256
 tame : ∀ i, i < n -> 0 < L i -> ∃ b o, A i = some ⟨b, o, none⟩ /\ Tame w b
set_option maxRecDepth 100000 in
set_option maxHeartbeats 2000000 in
theorem great_w (a : Option Addr) (n c : Nat) (A : Nat -> Option Addr) (L C : Nat -> Nat) (F : Nat -> Nat -> Nat) (w : World) (h : Pcs w a n A L C F) (hn : n <= 140737488351232) :
  Calls Tryz.prog 20 #[.slice a n c, .int .i64 500] w fun e w' => ∃ g : Bool, e = .returned (.bool g) /\ w = w' := by
 have HC := Lib.hid h.at_
 clear h
 go_enter Tryz.func20, Tryz.ntmps20
 go_wp2
 go_loopw [5, 10] (fun s i wr => ∃ (k : Nat) (z : Int), k <= n /\ s = .int .i64 z /\ i = .int .i64 (k : Nat) /\ w = wr) (fun _ i _ => n - (intOf i).toNat)
 case atStart => exact ⟨0, 0, by omega, rfl, rfl, rfl⟩
 case round =>
  obtain ⟨k, z, hk, rfl, rfl, rfl⟩ := hrel
  by_cases hlt : k < n
  ·obtain ⟨b, o, rfl, hc⟩ := HC.out (by omega)
   have c0 := hc k hlt
   clear hc
   obtain ⟨z1, e1⟩ : ∃ z1, IntKind.i64.wrap ((L k : Int) + 1) = z1 := ⟨_, rfl⟩
   obtain ⟨z2, e2⟩ : ∃ z2, IntKind.i64.wrap (z + z1) = z2 := ⟨_, rfl⟩
   have e3 : IntKind.i64.wrap ((k : Int) + 1) = ((k + 1 : Nat) : Int) := by rw [IntKind.wrap_i64]; omega
   have hi : (k : Int) < n := by omega
   go_wp2
   go_roundw
   case rel => exact ⟨k + 1, z2, by omega, rfl, rfl, by trivial⟩
   case measure => simp [intOf]; omega
  ·obtain rfl : k = n := by omega
   go_wp2
   go_ret
   exact ⟨_, rfl, rfl⟩
set_option maxRecDepth 100000 in
theorem same8_w (a b : Option Addr) (n c c' : Nat) (f g : Nat -> Int) (hfg : ∀ j, j < n -> f j = g j) (w : World) (hn : n <= maxLen) (hr : reads w a n .u8 f) (hr2 : reads w b n .u8 g) :
  Calls Tryz.prog 13 #[.slice a n c, .slice b n c'] w fun e w' => e = .returned (.bool true) /\ Below w.heap.size w w' := by
 unfold maxLen at hn
 have HR := Lib.hid hr
 have HR2 := Lib.hid (reads_ext (fun j hj => (hfg j hj).symm) hr2)
 clear hr hr2 hfg
 go_enter Tryz.func13, Tryz.ntmps13
 go_wp2
 go_loopw [5] (fun i wr => ∃ k : Nat, k <= n /\ i = .int .i64 k /\ Hid (Below w.heap.size w wr)) (fun i _ => n - (intOf i).toNat)
 case atStart => exact ⟨0, by omega, rfl, Lib.hid (Below.refl _ _)⟩
 case round =>
  obtain ⟨k, hk, rfl, HB⟩ := hrel
  by_cases hlt : k < n
  ·obtain ⟨b1, o1, rfl, hc1⟩ := reads_below (Nat.le_refl _) HB.out HR.out (by omega)
   obtain ⟨b2, o2, rfl, hc2⟩ := reads_below (Nat.le_refl _) HB.out HR2.out (by omega)
   have hcell1 := hc1 k hlt
   have hcell2 := hc2 k hlt
   clear hc1 hc2
   go_wp2_with fail
   go_region
   go_wp2
   go_roundw
   case rel => exact ⟨k + 1, by omega, by go_num, Lib.hid HB.out.drew⟩
   case measure => simp [intOf]; omega
  ·obtain rfl : n = k := by omega
   go_wp2
   go_ret
   exact ⟨rfl, HB.out⟩
end
end Go.Proofs.YtdobjciaikofdaaGreatDoor
