/- Part 16 of 39 of what the proof of this law needs. Put together by a program out of the texts: SpC WrA. -/
import Derived.Test.YtdobjciaikofdaaGreatDoorTopShakeAll15
import Derived.Test.YtdobjciaikofdaaGreatDoorTopShakeAll10
namespace Go.Proofs.YtdobjciaikofdaaGreatDoor
section
open Go.RowKit Go.Shelf Bt
attribute [local go_sem] vals_get? vals_get vals_size rowAt_at rowAt_past hasRow_at hasRow_past run_loadRow run_storeCells_row setRow_at setRow_past lt_s2 lt_s3 lt_s4 lt_s5 lt_s6
attribute [local go_sem ↓] loadRow_is
theorem may_w (n : Nat) (hn : n <= 1048576) (w : World) : Calls Tryz.prog 65 #[.int .i64 n] w fun e w' => e = .returned (.bool true) /\ w = w' := by
 have h1 : (0 : Int) <= (n : Int) := by omega
 have h2 : (n : Int) <= 1048576 := by omega
 go_enter Tryz.func65, Tryz.ntmps65
 go_wp2
 go_ret
 exact ⟨rfl, rfl⟩
theorem Sp.whole {w : World} {b : Nat} {s : Spg} (h : Sp w b s) (P : Program) : (loadRow ⟨b, 0, none⟩ 29).run P w = .ok (spC s) w := by
 have hl := run_loadCells_list (P := P) w ⟨b, 0, none⟩ (spL s) (fun j v hv => by
  have hadd : (⟨b, 0, none⟩ : Addr).add j = ⟨b, j, none⟩ := by unfold Addr.add; split <;> simp_all
  rw [hadd, (h.cell j).1]
  exact hv)
 rw [spL_length] at hl
 unfold loadRow
 exact hl
def zeroS : Spg := ⟨0, 0, fun _ => 0, 0, false⟩
theorem zeroSp : (#[Value.int .i64 0, .int .i64 0, .int .u64 0, .int .u64 0, .int .u64 0, .int .u64 0, .int .u64 0, .int .u64 0, .int .u64 0, .int .u64 0, .int .u64 0, .int .u64 0, .int .u64 0, .int .u64 0, .int .u64 0, .int .u64 0, .int .u64 0, .int .u64 0, .int .u64 0, .int .u64 0, .int .u64 0, .int .u64 0, .int .u64 0, .int .u64 0, .int .u64 0, .int .u64 0, .int .u64 0, .int .i64 0, .bool false] : Array Value) = spC zeroS := rfl
theorem store_new {P : Program} (w : World) (c c' : Array Value) (T : TypeId) (hl : c.size = c'.size) (h1 : ∀ v ∈ c'.toList, v.oneCell' = true) : (storeCells ⟨w.heap.size, 0, none⟩ c'.toList).run P (w.alloc (.cells c T)) = .ok () (w.alloc (.cells c' T)) := by
 rw [run_storeCells_from (P := P) w.heap.size T c'.toList 0 c _ (heap_at w _ _ rfl) (by simp [hl]) h1, setRow_at w c _ T w.heap.size rfl]
 simp
theorem laL_one (f : Nat -> Nat) : ∀ v ∈ (vals .u64 25 (fun j => (f j : Int))).toList, v.oneCell' = true := fun v hv => (Array.all_eq_true_iff_forall_mem.1 (vals_oneCell .u64 25 _)) v (by simpa using hv)
theorem spC_one (s : Spg) : ∀ v ∈ (spC s).toList, v.oneCell' = true := by
 intro v hv
 have hv : v ∈ spL s := by simpa [spC] using hv
 unfold spL at hv
 simp only [List.mem_cons, List.mem_append, List.not_mem_nil, or_false] at hv
 rcases hv with rfl | rfl | hv | rfl | rfl
 ·rfl
 ·rfl
 ·exact laL_one s.a v hv
 ·rfl
 ·rfl
set_option maxRecDepth 100000 in
set_option maxHeartbeats 2000000 in
theorem clone_w (b : Nat) (s : Spg) (w : World) (hs : Sp w b s) :
  Calls Tryz.prog 66 #[.pointer (some ⟨b, 0, none⟩)] w fun e w' => e = .returned (.pointer (some ⟨w.heap.size, 0, none⟩)) /\ Sp w' w.heap.size s /\ Below w.heap.size w w' := by
 have hld := hs.whole Tryz.prog
 have hsz := spC_size s
 have hz := zeroSp
 have hst := store_new (P := Tryz.prog) w (spC zeroS) (spC s) 127 (by rw [spC_size, spC_size]) (spC_one s)
 go_enter Tryz.func66, Tryz.ntmps66
 go_wp2
 go_ret
 exact ⟨rfl, ⟨_, _, heap_at w _ _ rfl, Nat.le_refl _⟩, bl_alloc (bl_refl w)⟩
def sqz : Nat -> Spg -> Nat -> Spg × List Nat
 | 0, s, _ => (s, [])
 | f + 1, s, r => if r = 0 then (s, []) else
  let s1 : Spg := if s.at_ = s.rate then { s with a := permF s.a, at_ := 0 } else s
  let m := min r (s1.rate - s1.at_)
  let q := sqz f { s1 with at_ := s1.at_ + m } (r - m)
  (q.1, (List.range m).map (fun i => byteL s1.a (s1.at_ + i)) ++ q.2)
def readS (s : Spg) (n : Nat) : Spg := (sqz n (turnS s) n).1
def readL (s : Spg) (n : Nat) : List Nat := (sqz n (turnS s) n).2
theorem win_at (i n : Nat) (hn : 0 < n) (h : i + n <= 200) : winF (i : Int) (n : Int) = i /\ winM (i : Int) (n : Int) = n := by
 unfold winF winM
 rw [if_neg (by omega), if_neg (by omega)]
 constructor <;> omega
structure Spg.Ok (s : Spg) : Prop where
 a : ∀ j, j < 25 -> s.a j < 18446744073709551616
 pos : 1 <= s.rate
 rate : s.rate <= 168
 at_ : s.at_ <= s.rate
 suf : s.suf < 256
theorem turnS_ok {s : Spg} (h : s.Ok) : (turnS s).Ok :=
 ⟨fun j hj => permF_lt _ (fun j _ => (lanX_is _ _ _ _ (fun _ _ => by omega) j).2) j hj, h.pos, h.rate, Nat.zero_le _, h.suf⟩
theorem read0_w (b : Nat) (w : World) : Calls Tryz.prog 34 #[.pointer (some ⟨b, 0, none⟩), .int .i64 0] w fun e w' => e = .returned (.tuple #[.slice none 0 0, .int .i64 0]) /\ w = w' := by
 have CM : Hid (∀ W, Calls Tryz.prog 65 #[.int .i64 0] W fun e w' => e = .returned (.bool true) /\ W = w') := Lib.hid (may_w 0 (by omega))
 go_enter Tryz.func34, Tryz.ntmps34
 go_wp2_with (go_at_call 65; (with_reducible refine (CM.out _).mono ?_); rintro e w1 ⟨rfl, rfl⟩)
 go_loopw [6] (fun o' wr => o' = .slice none 0 0 /\ Hid (wr = w)) (fun _ _ => 0)
 case atStart => exact ⟨rfl, Lib.hid rfl⟩
 case round =>
  obtain ⟨rfl, hw⟩ := hrel
  go_wp2
  refine bodyPost_ret (results_tmp2 rfl _ _ _) rfl ?_
  exact ⟨rfl, hw.out.symm⟩
def lenOf : Value -> Nat | .slice _ n _ => n | _ => 0
theorem owns_gb {w w1 : World} {b base : Nat} {e : TypeId} {k : IntKind} {v : Value} {n : Nat} {f : Nat -> Int} (h : owns w base e k v n f) (hg : w.grownBy w1 (some b)) (hb : b < base) : owns w1 base e k v n f := by
 refine World.ownsRow.kept h hg ?_
 rcases h.2 with ⟨rfl, _⟩ | ⟨g, cap, cur, rfl, hbg, _⟩
 ·exact .inl rfl
 ·refine .inr (fun e => ?_)
  have e2 : some g = some b := e
  cases e2
  omega
theorem own_ne {w : World} {b base : Nat} {e : TypeId} {k : IntKind} {v : Value} {n : Nat} {f : Nat -> Int} (h : owns w base e k v n f) (hb : b < base) : some b ≠ v.ownBlock := by
 rcases h.2 with ⟨rfl, _⟩ | ⟨g, cap, cur, rfl, hbg, _⟩
 ·intro e; cases e
 ·intro e
  have e2 : some b = some g := e
  cases e2
  omega
theorem gb_own' {w w1 w2 : World} {r : Option Nat} {e : TypeId} {k : IntKind} {v : Value} {n : Nat} {f : Nat -> Int} (h : w.grownBy w1 r) (h2 : w1.grownBy w2 v.ownBlock) (ho : owns w1 w.heap.size e k v n f) : w.grownBy w2 r := by
 rcases ho.2 with ⟨rfl, _⟩ | ⟨g, cap, cur, rfl, hbg, _⟩
 ·exact ⟨h2.os.trans h.os, h2.tape.trans h.tape, h2.output.trans h.output, Nat.le_trans h.size h2.size, fun k hk hr => (h2.block k (Nat.lt_of_lt_of_le hk h.size) (fun e => by cases e)).trans (h.block k hk hr)⟩
 ·exact gb_own h h2 hbg
theorem owns_drew {w : World} {base : Nat} {e : TypeId} {k : IntKind} {v : Value} {n : Nat} {f : Nat -> Int} (h : owns w base e k v n f) : owns w.drew base e k v n f := h
def oneS (s : Spg) : Spg := if s.at_ = s.rate then { s with a := permF s.a, at_ := 0 } else s
theorem oneS_ok {s : Spg} (h : s.Ok) : (oneS s).Ok /\ (oneS s).rate = s.rate /\ (oneS s).at_ < (oneS s).rate := by
 have h1 := h.pos
 have h2 := h.at_
 unfold oneS
 split
 ·exact ⟨⟨fun j hj => permF_lt _ h.a j hj, h.pos, h.rate, Nat.zero_le _, h.suf⟩, rfl, by dsimp only; omega⟩
 ·exact ⟨h, rfl, by omega⟩
theorem sqz_one (f : Nat) (s : Spg) (r : Nat) (hr : r ≠ 0) : sqz (f + 1) s r = ((sqz f { oneS s with at_ := (oneS s).at_ + min r ((oneS s).rate - (oneS s).at_) } (r - min r ((oneS s).rate - (oneS s).at_))).1, (List.range (min r ((oneS s).rate - (oneS s).at_))).map (fun i => byteL (oneS s).a ((oneS s).at_ + i)) ++ (sqz f { oneS s with at_ := (oneS s).at_ + min r ((oneS s).rate - (oneS s).at_) } (r - min r ((oneS s).rate - (oneS s).at_))).2) := by
 conv => lhs; unfold sqz
 rw [if_neg hr]
 rfl
theorem sqz_nil (f : Nat) (s : Spg) : sqz f s 0 = (s, []) := by
 cases f with
 | zero => rfl
 | succ f => unfold sqz; rw [if_pos rfl]
set_option maxRecDepth 100000 in
set_option maxHeartbeats 4000000 in
theorem read_w (b n : Nat) (hn0 : 0 < n) (hn : n <= 1048576) (s : Spg) (ok : s.Ok) (hrd : s.rd = false) (w : World) (hs : Sp w b s) (ht : TabK w) (hbt : b ≠ 8 /\ b ≠ 9) :
  Calls Tryz.prog 34 #[.pointer (some ⟨b, 0, none⟩), .int .i64 n] w fun e w' => ∃ v, e = .returned (.tuple #[v, .int .i64 0]) /\ owns w' w.heap.size 5 .u8 v n (fun j => ((readL s n).getD j 0 : Nat)) /\ Sp w' b (readS s n) /\ w.grownBy w' (some b) := by
 have HT := Lib.hid ht
 have HS := Lib.hid hs
 have OK := Lib.hid ok
 have hc := hs.rd
 rw [hrd] at hc
 have CM : Hid (∀ W, Calls Tryz.prog 65 #[.int .i64 n] W fun e w' => e = .returned (.bool true) /\ W = w') := Lib.hid (may_w n hn)
 have hn1 : (n : Int) <= 1048576 := by omega
 have hn2 : (0 : Int) < (n : Int) := by omega
 clear ht hs ok hrd
 go_enter Tryz.func34, Tryz.ntmps34
 go_wp2_with (first | (go_at_call 65; (with_reducible refine (CM.out _).mono ?_); rintro e w1 ⟨rfl, rfl⟩) | (go_at_call 76; (refine (turn_w b s OK.out.a (by have := OK.out.at_; have := OK.out.rate; omega) (by have := OK.out.rate; omega) OK.out.suf _ HS.out ⟨HT.out.off, HT.out.rc⟩ hbt).mono ?_); rintro e w1 ⟨rfl, S1, g1⟩))
 have G0 := Lib.hid (show Hid (Spg.Ok (turnS s) /\ True) from Lib.hid ⟨turnS_ok OK.out, trivial⟩)
 clear G0
 have J0 : Hid (∃ L : List Nat, L.length = 0 /\ (turnS s).Ok /\ (∃ f, n - 0 <= f /\ sqz n (turnS s) n = ((sqz f (turnS s) (n - 0)).1, L ++ (sqz f (turnS s) (n - 0)).2)) /\ owns w1 w.heap.size 5 .u8 (.slice none 0 0) 0 (fun j => (L.getD j 0 : Nat)) /\ Sp w1 b (turnS s) /\ w.grownBy w1 (some b)) :=
  Lib.hid ⟨[], rfl, turnS_ok OK.out, ⟨n, Nat.le_refl _, by rw [Nat.sub_zero, List.nil_append]⟩, owns_nil _ _ _ _ _, S1, g1⟩
 have hbl := HS.out.lt
 clear S1 g1 CM hc
 go_loopw [6] (fun o' wr => ∃ (k : Nat) (sk : Spg) (ao : Option Addr) (co : Nat), k <= n /\ o' = .slice ao k co /\ Hid (∃ L : List Nat, L.length = k /\ sk.Ok /\ (∃ f, n - k <= f /\ sqz n (turnS s) n = ((sqz f sk (n - k)).1, L ++ (sqz f sk (n - k)).2)) /\ owns wr w.heap.size 5 .u8 (.slice ao k co) k (fun j => (L.getD j 0 : Nat)) /\ Sp wr b sk /\ w.grownBy wr (some b))) (fun o' _ => n - lenOf o')
 case atStart => exact ⟨0, turnS s, none, 0, Nat.zero_le _, rfl, J0⟩
 case round =>
  clear J0
  obtain ⟨k, sk, ao, co, hk, rfl, HI⟩ := hrel
  by_cases hlt : k < n
  ·have hli : (k : Int) < (n : Int) := by omega
   obtain ⟨at0, e0⟩ : ∃ x, Hid (x = sk.at_) := ⟨_, Lib.hid rfl⟩
   obtain ⟨rt, ert⟩ : ∃ x, Hid (x = sk.rate) := ⟨_, Lib.hid rfl⟩
   have c1 : wr.cell? ⟨b, 27, none⟩ = some (.int .i64 at0) := by
    obtain ⟨L, h1, h2, h3, h4, h5, h6⟩ := HI.out
    rw [e0.out]; exact h5.at_
   have c2 : wr.cell? ⟨b, 0, none⟩ = some (.int .i64 rt) := by
    obtain ⟨L, h1, h2, h3, h4, h5, h6⟩ := HI.out
    rw [ert.out]; exact h5.rate
   obtain ⟨m, em⟩ : ∃ m, Hid (m = min (n - k) ((oneS sk).rate - (oneS sk).at_)) := ⟨_, Lib.hid rfl⟩
   obtain ⟨at1, e1⟩ : ∃ x, Hid (x = (oneS sk).at_) := ⟨_, Lib.hid rfl⟩
   have hok : Hid ((oneS sk).Ok /\ (oneS sk).rate = sk.rate /\ (oneS sk).at_ < (oneS sk).rate) := by
    obtain ⟨L, h1, h2, h3, h4, h5, h6⟩ := HI.out
    exact Lib.hid (oneS_ok h2)
   have hb1 : at1 < rt /\ rt <= 168 /\ m = min (n - k) (rt - at1) := by
    have h1 := hok.out
    have h2 := h1.1.rate
    rw [e1.out, ert.out, em.out, <- h1.2.1]
    exact ⟨h1.2.2, h2, rfl⟩
   obtain ⟨hb1, hb2, hb3'⟩ := hb1
   have hb3 := Lib.hid hb3'
   have hm0 : 0 < m := by omega
   have hmk : k + m <= n := by omega
   have hmi : (min ((n - k : Nat) : Int) ((rt - at1 : Nat) : Int)) = (m : Int) := by omega
   have hm1 : at1 + m <= 168 := by omega
   clear hb3'
   have hw1 : IntKind.i64.wrap ((n : Int) - (k : Int)) = ((n - k : Nat) : Int) := by rw [IntKind.wrap_i64]; omega
   have hw2 : IntKind.i64.wrap ((rt : Int) - (at1 : Int)) = ((rt - at1 : Nat) : Int) := by rw [IntKind.wrap_i64]; omega
   have hw3 : IntKind.i64.wrap ((at1 : Int) + (m : Int)) = ((at1 + m : Nat) : Int) := by rw [IntKind.wrap_i64]; omega
   have CO : Hid (∀ W, Calls Tryz.prog 78 #[.agg (vals .u64 25 (fun j => ((oneS sk).a j : Int))), .int .i64 at1, .int .i64 m] W fun e w' => ∃ v, e = .returned v /\ owns w' W.heap.size 5 .u8 v m (fun j => (byteL (oneS sk).a (at1 + j) : Int)) /\ Below W.heap.size W w') := Lib.hid (fun W => by
    have h := lout_w (oneS sk).a hok.out.1.a at1 m (by omega) (by omega) W
    rw [(win_at at1 m hm0 (by omega)).1, (win_at at1 m hm0 (by omega)).2] at h
    exact h)
   have NEXT : ∀ (W : World) (v : Value) (J : World -> Prop), True := fun _ _ _ => trivial
   clear NEXT
   by_cases heq : at0 = rt
   ·have hei : (at0 : Int) = (rt : Int) := by omega
    go_wp2_with fail
    refine region_still (by kernel_rfl) (by kernel_rfl) rfl ?_
    iterate 9 still_step
    refine wpStill_nil ?_
    have PI : Hid (Sp wr b sk /\ sk.Ok /\ TabK wr) := by
     obtain ⟨L, h1, h2, h3, h4, h5, h6⟩ := HI.out
     exact Lib.hid ⟨h5, h2, HT.out.grown hbt h6⟩
    go_wp2_with (go_at_call 77; (refine (permute_w b sk PI.out.2.1.a _ PI.out.1.drew ⟨PI.out.2.2.off, PI.out.2.2.rc⟩).mono ?_); rintro e w2 ⟨rfl, S2, g2⟩)
    have ST : Hid (Sp w2 b (oneS sk) /\ wr.grownBy w2 (some b)) := Lib.hid ⟨by unfold oneS; rw [if_pos (by rw [<- e0.out, <- ert.out]; exact heq)]; exact S2, gb_trans (gb_below (bl_drew (bl_refl wr))) g2⟩
    clear S2 g2 PI c1 c2
    have c1' := (ST.out.1).at_
    have c2' := (ST.out.1).rate
    rw [<- e1.out] at c1'
    rw [hok.out.2.1, <- ert.out] at c2'
    have c3' := (ST.out.1).drew.load Tryz.prog
    refine region_tail 22 (by kernel_rfl) (by kernel_rfl) rfl ?_
    simp only [List.take_succ_cons, List.take_zero, List.drop_succ_cons, List.drop_zero]
    iterate 22 still_step
    refine wpStill_nil ?_
    have X1 : Hid (∃ L : List Nat, L.length = k /\ (∃ f, n - k <= f /\ sqz n (turnS s) n = ((sqz f sk (n - k)).1, L ++ (sqz f sk (n - k)).2)) /\ owns w2.drew w.heap.size 5 .u8 (.slice ao k co) k (fun j => (L.getD j 0 : Nat)) /\ w.grownBy w2.drew (some b)) := by
     obtain ⟨L, h1, h2, h3, h4, h5, h6⟩ := HI.out
     exact Lib.hid ⟨L, h1, h3, owns_drew (owns_gb h4 ST.out.2 hbl), gb_trans h6 (gb_drew ST.out.2)⟩
    obtain ⟨L, hL⟩ : ∃ L : List Nat, Hid (L.length = k /\ (∃ f, n - k <= f /\ sqz n (turnS s) n = ((sqz f sk (n - k)).1, L ++ (sqz f sk (n - k)).2)) /\ owns w2.drew w.heap.size 5 .u8 (.slice ao k co) k (fun j => (L.getD j 0 : Nat)) /\ w.grownBy w2.drew (some b)) := X1.out
    have ST2 : Hid (Sp w2.drew b (oneS sk)) := ST.out.1.drew
    clear X1 HI ST
    generalize w2.drew = w2d at c3' hL ST2 ⊢
    clear c1' c2'
    go_wp2_with (first | (go_at_call 78; (with_reducible refine (CO.out _).mono ?_); rintro e w3 ⟨v, rfl, ho3, hb4⟩; obtain ⟨g3, cc3, rfl, hcc3, hg3, _, hcs3⟩ := owns_at ho3 hm0; have R3 : reads w3 (some ⟨g3, 0, none⟩) m .u8 (fun j => (byteL (oneS sk).a (at1 + j) : Int)) := (fun _ => ⟨g3, 0, rfl, fun j hj => by rw [Nat.zero_add]; exact (hcs3 j (by omega)).1⟩); have O3 := Lib.hid (owns_below (Nat.le_refl _) hb4 hL.out.2.2.1); have S3 := Lib.hid (ST2.out.below (Nat.le_refl _) hb4); have G3 := Lib.hid (gb_call hL.out.2.2.2 hb4); have RH := Lib.hid R3; clear ho3 hb4 hg3 hcs3 R3) | (at_builtin; refine append_many elt8w rfl (.tmp 60) (.tmp 61) rfl rfl O3.out rfl RH.out (by unfold maxLen; omega) (by omega) G3.out.size ?_; intro v' w4 ho4 hg4; obtain ⟨a4, c4, rfl, hc4, _, _⟩ := owns_reads ho4; have O4 := Lib.hid ho4; have S4 := Lib.hid (S3.out.grown hg4 (own_ne O3.out hbl)); have G4 := Lib.hid (gb_own' G3.out hg4 O3.out); have k1 := S4.out.at_; have k2 := (S4.out.cell 27).2; rw [<- e1.out] at k1; clear ho4 hg4))
    have ev : ((at1 : Int) + (m : Int)) = ((at1 + m : Nat) : Int) := by omega
    rw [ev, S4.out.setAt]
    refine ⟨⟨k + m, { oneS sk with at_ := at1 + m }, a4, c4, hmk, rfl, Lib.hid ⟨L ++ (List.range m).map (fun i => byteL (oneS sk).a (at1 + i)), ?_, ?_, ?_, ?_, S4.out.row _, gb_trans G4.out (gb_row _ _ _)⟩⟩, by simp only [lenOf]; omega⟩
    ·simp [hL.out.1]
    ·exact ⟨hok.out.1.a, hok.out.1.pos, hok.out.1.rate, by have := hok.out.2.1; rw [ert.out] at hb1 hb2 hb3; dsimp only; have := hb3.out; omega, hok.out.1.suf⟩
    ·obtain ⟨f, hf, hq⟩ := hL.out.2.1
     obtain ⟨f', rfl⟩ : ∃ f', f = f' + 1 := ⟨f - 1, by omega⟩
     refine ⟨f', by omega, ?_⟩
     rw [hq, sqz_one f' sk (n - k) (by omega), <- em.out, <- e1.out, Nat.sub_sub, List.append_assoc]
    ·refine owns_gb (owns_ext (fun j hj => ?_) O4.out) (gb_row _ _ _) hbl
     have hl := hL.out.1
     by_cases h : j < k
     ·rw [if_pos h, List.getD_eq_getElem?_getD, List.getD_eq_getElem?_getD, List.getElem?_append_left (by omega)]
     ·rw [if_neg h, List.getD_eq_getElem?_getD, List.getElem?_append_right (by omega), hl, List.getElem?_map, List.getElem?_range (by omega)]
      rfl
   ·have hei : ¬ (at0 : Int) = (rt : Int) := by omega
    go_wp2_with fail
    refine region_still (by kernel_rfl) (by kernel_rfl) rfl ?_
    iterate 9 still_step
    refine wpStill_nil ?_
    have PI : Hid (Sp wr b sk) := by
     obtain ⟨L, h1, h2, h3, h4, h5, h6⟩ := HI.out
     exact Lib.hid h5
    go_wp2_with fail
    obtain ⟨w2, ew2⟩ : ∃ w2, w2 = wr.drew := ⟨_, rfl⟩
    have ST : Hid (Sp w2 b (oneS sk) /\ wr.grownBy w2 (some b)) := Lib.hid ⟨by unfold oneS; rw [ew2, if_neg (by rw [<- e0.out, <- ert.out]; exact heq)]; exact PI.out.drew, by rw [ew2]; exact gb_below (bl_drew (bl_refl wr))⟩
    rw [<- ew2]
    clear PI c1 c2 ew2
    have c1' := (ST.out.1).at_
    have c2' := (ST.out.1).rate
    rw [<- e1.out] at c1'
    rw [hok.out.2.1, <- ert.out] at c2'
    have c3' := (ST.out.1).drew.load Tryz.prog
    refine region_tail 22 (by kernel_rfl) (by kernel_rfl) rfl ?_
    simp only [List.take_succ_cons, List.take_zero, List.drop_succ_cons, List.drop_zero]
    iterate 22 still_step
    refine wpStill_nil ?_
    have X1 : Hid (∃ L : List Nat, L.length = k /\ (∃ f, n - k <= f /\ sqz n (turnS s) n = ((sqz f sk (n - k)).1, L ++ (sqz f sk (n - k)).2)) /\ owns w2.drew w.heap.size 5 .u8 (.slice ao k co) k (fun j => (L.getD j 0 : Nat)) /\ w.grownBy w2.drew (some b)) := by
     obtain ⟨L, h1, h2, h3, h4, h5, h6⟩ := HI.out
     exact Lib.hid ⟨L, h1, h3, owns_drew (owns_gb h4 ST.out.2 hbl), gb_trans h6 (gb_drew ST.out.2)⟩
    obtain ⟨L, hL⟩ : ∃ L : List Nat, Hid (L.length = k /\ (∃ f, n - k <= f /\ sqz n (turnS s) n = ((sqz f sk (n - k)).1, L ++ (sqz f sk (n - k)).2)) /\ owns w2.drew w.heap.size 5 .u8 (.slice ao k co) k (fun j => (L.getD j 0 : Nat)) /\ w.grownBy w2.drew (some b)) := X1.out
    have ST2 : Hid (Sp w2.drew b (oneS sk)) := ST.out.1.drew
    clear X1 HI ST
    generalize w2.drew = w2d at c3' hL ST2 ⊢
    clear c1' c2'
    go_wp2_with (first | (go_at_call 78; (with_reducible refine (CO.out _).mono ?_); rintro e w3 ⟨v, rfl, ho3, hb4⟩; obtain ⟨g3, cc3, rfl, hcc3, hg3, _, hcs3⟩ := owns_at ho3 hm0; have R3 : reads w3 (some ⟨g3, 0, none⟩) m .u8 (fun j => (byteL (oneS sk).a (at1 + j) : Int)) := (fun _ => ⟨g3, 0, rfl, fun j hj => by rw [Nat.zero_add]; exact (hcs3 j (by omega)).1⟩); have O3 := Lib.hid (owns_below (Nat.le_refl _) hb4 hL.out.2.2.1); have S3 := Lib.hid (ST2.out.below (Nat.le_refl _) hb4); have G3 := Lib.hid (gb_call hL.out.2.2.2 hb4); have RH := Lib.hid R3; clear ho3 hb4 hg3 hcs3 R3) | (at_builtin; refine append_many elt8w rfl (.tmp 60) (.tmp 61) rfl rfl O3.out rfl RH.out (by unfold maxLen; omega) (by omega) G3.out.size ?_; intro v' w4 ho4 hg4; obtain ⟨a4, c4, rfl, hc4, _, _⟩ := owns_reads ho4; have O4 := Lib.hid ho4; have S4 := Lib.hid (S3.out.grown hg4 (own_ne O3.out hbl)); have G4 := Lib.hid (gb_own' G3.out hg4 O3.out); have k1 := S4.out.at_; have k2 := (S4.out.cell 27).2; rw [<- e1.out] at k1; clear ho4 hg4))
    have ev : ((at1 : Int) + (m : Int)) = ((at1 + m : Nat) : Int) := by omega
    rw [ev, S4.out.setAt]
    refine ⟨⟨k + m, { oneS sk with at_ := at1 + m }, a4, c4, hmk, rfl, Lib.hid ⟨L ++ (List.range m).map (fun i => byteL (oneS sk).a (at1 + i)), ?_, ?_, ?_, ?_, S4.out.row _, gb_trans G4.out (gb_row _ _ _)⟩⟩, by simp only [lenOf]; omega⟩
    ·simp [hL.out.1]
    ·exact ⟨hok.out.1.a, hok.out.1.pos, hok.out.1.rate, by have := hok.out.2.1; rw [ert.out] at hb1 hb2 hb3; dsimp only; have := hb3.out; omega, hok.out.1.suf⟩
    ·obtain ⟨f, hf, hq⟩ := hL.out.2.1
     obtain ⟨f', rfl⟩ : ∃ f', f = f' + 1 := ⟨f - 1, by omega⟩
     refine ⟨f', by omega, ?_⟩
     rw [hq, sqz_one f' sk (n - k) (by omega), <- em.out, <- e1.out, Nat.sub_sub, List.append_assoc]
    ·refine owns_gb (owns_ext (fun j hj => ?_) O4.out) (gb_row _ _ _) hbl
     have hl := hL.out.1
     by_cases h : j < k
     ·rw [if_pos h, List.getD_eq_getElem?_getD, List.getD_eq_getElem?_getD, List.getElem?_append_left (by omega)]
     ·rw [if_neg h, List.getD_eq_getElem?_getD, List.getElem?_append_right (by omega), hl, List.getElem?_map, List.getElem?_range (by omega)]
      rfl
  ·obtain rfl : k = n := by omega
   go_wp2_with fail
   refine bodyPost_ret (results_tmp2 rfl _ _ _) rfl ?_
   obtain ⟨L, h1, h2, ⟨f, h3, h4⟩, h5, h6, h7⟩ := HI.out
   rw [Nat.sub_self, sqz_nil] at h4
   have e1 : readL s k = L := by unfold readL; rw [h4]; simp
   have e2 : readS s k = sk := by unfold readS; rw [h4]
   refine ⟨_, rfl, ?_, ?_, h7⟩
   ·rw [e1]
    exact h5
   ·rw [e2]
    exact h6
theorem TabK.lt {w : World} (h : TabK w) : 8 < w.heap.size /\ 9 < w.heap.size := ⟨cell_lt (h.off 0 (by omega)), cell_lt (h.rc 0 (by omega))⟩
set_option maxRecDepth 100000 in
theorem sum_w (b n : Nat) (hn0 : 0 < n) (hn : n <= 1048576) (s : Spg) (ok : s.Ok) (hrd : s.rd = false) (w : World) (hs : Sp w b s) (ht : TabK w) :
  Calls Tryz.prog 26 #[.pointer (some ⟨b, 0, none⟩), .int .i64 n] w fun e w' => ∃ v, e = .returned (.tuple #[v, .int .i64 0]) /\ owns w' w.heap.size 5 .u8 v n (fun j => ((readL s n).getD j 0 : Nat)) /\ Below w.heap.size w w' := by
 have HT := Lib.hid ht
 have HS := Lib.hid hs
 have OK := Lib.hid ok
 have HR := Lib.hid hrd
 have hc := hs.rd
 rw [hrd] at hc
 have CM : Hid (∀ W, Calls Tryz.prog 65 #[.int .i64 n] W fun e w' => e = .returned (.bool true) /\ W = w') := Lib.hid (may_w n hn)
 have hbt : w.heap.size ≠ 8 /\ w.heap.size ≠ 9 := by
  have := ht.lt
  omega
 have HB := Lib.hid hbt
 clear ht hs ok hrd hbt
 go_enter Tryz.func26, Tryz.ntmps26
 go_wp2_with (first | (go_at_call 65; (with_reducible refine (CM.out _).mono ?_); rintro e w1 ⟨rfl, rfl⟩) | (go_at_call 66; (refine (clone_w b s _ HS.out).mono ?_); rintro e w1 ⟨rfl, S1, g1⟩; have P1 := Lib.hid (And.intro S1 (And.intro g1 (HT.out.below (Nat.le_refl _) g1))); clear S1 g1) | (go_at_call 34; (refine (read_w _ n hn0 hn s OK.out HR.out _ P1.out.1 ⟨P1.out.2.2.off, P1.out.2.2.rc⟩ HB.out).mono ?_); rintro e w2 ⟨v, rfl, O2, S2, g2⟩; have P2 := Lib.hid (And.intro O2 (And.intro S2 g2)); clear O2 S2 g2))
 refine bodyPost_ret (results_tmp2 rfl _ _ _) rfl ⟨_, rfl, owns_base P1.out.2.1.size P2.out.1, ?_⟩
 exact P1.out.2.1.trans (below_own P2.out.2.2 (Nat.le_refl _) P1.out.2.1.size)
end
section
open Go Go.Conc
def topB : BSet := fun _ => True
def botB : BSet := fun _ => False
theorem rely_top {S : BSet} {w w1 : World} (h : Rely topB S w w1) : w1 = w.at w1.drawn := by
 obtain ⟨heap, tape, drawn, os, output⟩ := w
 obtain ⟨heap1, tape1, drawn1, os1, output1⟩ := w1
 obtain ⟨h1, h2, h3, h4, h5⟩ := h
 dsimp only at h1 h2 h3 h4 h5
 have : heap1 = heap := Array.ext_getElem? fun i => h5 i (.inl trivial)
 subst h1 h2 h3 this
 rfl
section
variable {P : Program} {Post : Value -> World -> Prop}
theorem RunsOn.at {g : Goroutine} {w : World} (h : RunsOn P Post g w) (d : Nat) : RunsOn P Post g (w.at d) := by
 intro gs sl t q d' h0 hL hP
 have e : (w.at d).at d' = w.at d' := rfl
 rw [e]
 exact h gs sl t q d' h0 hL hP
theorem run_step {fr fr' : Frame} {cs cs' : List Frame} {w w' : World} (h : ∀ d, ∃ es, stepG P true (G fr cs) (w.at d) = .go (G fr' cs') (w'.at d) es /\ Guar topB botB (w.at d) (w'.at d) es) (hn : RunsOn P Post (G fr' cs') w') : RunsOn P Post (G fr cs) w := by
 refine RunsOn.closed (P := P) (Post := Post) botB topB _ w rfl fun w1 R => ?_
 rw [rely_top R]
 obtain ⟨es, h1, h2⟩ := h w1.drawn
 exact ⟨_, _, es, h1, h2, hn.at _⟩
theorem run_ctl {fr fr' : Frame} {cs cs' : List Frame} {w : World} (h : ∀ w, stepG P true (G fr cs) w = .go (G fr' cs') w #[]) (hn : RunsOn P Post (G fr' cs') w) : RunsOn P Post (G fr cs) w :=
 run_step (fun _ => ⟨#[], h _, Guar.refl _ _⟩) hn
theorem run_val {b : Frame} {a : Act} {ops : Array Oper} {i : Nat} {rest : List Nat} {k : List Item} {cs : List Frame} {o : Oper} {w w' : World} (v : Value) (ho : ops[i]? = some o) (hw : Region.wanted o (yielded ops a.tmps) = true) (hk : b.kind ≠ .early)
  (hr : ∀ d, (execOp a.eval o).run P (w.at d) = .ok (.value v) (w'.at d)) (he : ∀ d, (execOp a.eval o).events P (w.at d) #[] = #[]) (hs : w.heap.size <= w'.heap.size /\ w'.os = w.os /\ w'.output = w.output /\ w'.tape = w.tape)
  (h : RunsOn P Post (G (b.at (a.put o.dst v) (.inRegion ops rest :: k)) cs) w') : RunsOn P Post (G (b.at a (.inRegion ops (i :: rest) :: k)) cs) w :=
 run_step (fun d => ⟨#[], by rw [stepG_value ho hw hk (hr d)]; unfold listed; rw [he d, seen_none], ⟨hs.2.1, hs.2.2.1, hs.2.2.2, hs.1, fun b _ hb => absurd trivial hb, fun e he => by simp at he⟩⟩) h
theorem run_enter {b : Frame} {a : Act} {ops : Array Oper} {i : Nat} {rest : List Nat} {k : List Item} {cs : List Frame} {o : Oper} {f : FuncId} {args : Array Value} {w : World} (ho : ops[i]? = some o) (hw : Region.wanted o (yielded ops a.tmps) = true) (hk : b.kind ≠ .early)
  (hr : ∀ w, (execOp a.eval o).run P w = .ok (.enter f args) w) (he : ∀ w, (execOp a.eval o).events P w #[] = #[])
  (h : RunsOn P Post (G (Frame.enter P f args .normal) (b.at a (.inRegion ops (i :: rest) :: k) :: cs)) w) : RunsOn P Post (G (b.at a (.inRegion ops (i :: rest) :: k)) cs) w :=
 run_ctl (fun w => by rw [stepG_enter ho hw hk (hr w)]; unfold listed; rw [he w, seen_none]) h
structure Kept (w w1 : World) : Prop where
 os : w1.os = w.os
 output : w1.output = w.output
 tape : w1.tape = w.tape
 size : w.heap.size <= w1.heap.size
 keep : ∀ b, b < w.heap.size -> w1.heap[b]? = w.heap[b]?
theorem Kept.trans {a b c : World} (h : Kept a b) (h2 : Kept b c) : Kept a c := ⟨h2.os.trans h.os, h2.output.trans h.output, h2.tape.trans h.tape, Nat.le_trans h.size h2.size, fun x hx => (h2.keep x (Nat.lt_of_lt_of_le hx h.size)).trans (h.keep x hx)⟩
end
def cF : Code -> Code
 | .seq a _ => a
 | .block _ c => c
 | .loop c => c
 | .cond _ a _ => a
 | c => c
def cS : Code -> Code
 | .seq _ b => b
 | .cond _ _ b => b
 | c => c
def cO : Code -> Array Oper
 | .region _ o _ => o
 | _ => #[]
section
variable {P : Program} {m : Bool} {S : BSet} {X : BSet -> Goroutine -> World -> Prop} {w0 w w1 : World} {O O1 : BSet}
theorem wanted_none {o : Oper} (h : o.guard = none) (y : Nat -> Option Bool) : Region.wanted o y = true := by unfold Region.wanted; rw [h]
def bornF (P : Program) : Frame := { (default : Frame) with fn := P.funcs.size, defers := [], mode := .panicking [goexitEntry] }
theorem eval_tmp {T : Array Value} {ds : List Deferred} {i : Nat} {v : Value} (h : T[i]? = some v) : Act.eval ⟨T, ds⟩ (.tmp i) = v := by
 show T.getD i undef = v
 rw [Array.getD_eq_getD_getElem?, h]
 rfl
theorem served_at {b : Frame} {a : Act} {ops : Array Oper} {i : Nat} {rest : List Nat} {k : List Item} {cs : List Frame} {o : Oper} (v : Value) (ho : ops[i]? = some o) : Conc.served (G (b.at a (.inRegion ops (i :: rest) :: k)) cs) v = G (b.at (a.put o.dst v) (.inRegion ops rest :: k)) cs := by
 have h := Frame.finish_at b a ops i rest k v
 rw [ho] at h
 unfold Conc.served
 show ({ frame := (b.at a (.inRegion ops (i :: rest) :: k)).finish v, callers := cs, status := .running, dying := none, offers := none } : Goroutine) = _
 rw [h]
 rfl
theorem stepG_deferV {P : Program} {m : Bool} {b : Frame} {a : Act} {ops : Array Oper} {i : Nat} {rest : List Nat} {k : List Item} {cs : List Frame} {o : Oper} {d : Deferred} {w : World} (ho : ops[i]? = some o) (hw : Region.wanted o (yielded ops a.tmps) = true) (hk : b.kind ≠ .early) (hr : (execOp a.eval o).run P w = .ok (.defer d) w /\ (execOp a.eval o).events P w #[] = #[]) :
  stepG P m (G (b.at a (.inRegion ops (i :: rest) :: k)) cs) w = .go (G (b.at (Act.put ⟨a.tmps, d :: a.defers⟩ o.dst undef) (.inRegion ops rest :: k)) cs) w #[] := by
 have hk' : (b.kind == CallKind.early) = false := by simpa using hk
 have hfin : ({ b.at a (.inRegion ops (i :: rest) :: k) with defers := d :: a.defers } : Frame).finish undef = b.at (Act.put ⟨a.tmps, d :: a.defers⟩ o.dst undef) (.inRegion ops rest :: k) := by
  have := Frame.finish_at b ⟨a.tmps, d :: a.defers⟩ ops i rest k undef
  rw [ho] at this
  exact this
 rw [stepG_oper ho hw, <- hfin]
 simp [stepG.apply, hr.1, hr.2, G, Frame.at, hk', GStep.after, seen_none]
theorem path_stiff {σ : BRel} {O O1 : BSet} {L Ls : List Nat} {w wE WE : World} (M : Meet S O L Ls w) (p : Path (idL L) σ O S O1 (ice L Ls w) WE w wE) {b : Nat} (hb : b ∈ L) (hs : b ∈ Ls) : wE.heap[b]? = w.heap[b]? := by
 obtain ⟨c, e, fr, hc⟩ := M.tame b hb
 refine p.keep b (Array.getElem?_eq_some_iff.1 hc).1 ((M.own b hb).imp id (·.1)) fun a ha => ?_
 obtain ⟨rfl, _⟩ := ha
 exact ice_stiff hc hb hs
theorem path_out {σ : BRel} {O O1 : BSet} {L Ls : List Nat} {w wE WE : World} (p : Path (idL L) σ O S O1 (ice L Ls w) WE w wE) {b : Nat} (hb : b ∉ L) (hl : b < w.heap.size) (hO : O b \/ S b) : wE.heap[b]? = w.heap[b]? :=
 p.keep b hl hO fun a ha => by obtain ⟨rfl, h⟩ := ha; exact absurd h hb
theorem path_id {σ : BRel} {O O1 : BSet} {L Ls : List Nat} {w wE WE : World} (p : Path (idL L) σ O S O1 (ice L Ls w) WE w wE) {b : Nat} (hb : b ∈ L) : σ b b := p.sub.1 b b ⟨rfl, hb⟩
theorem vrel_ptr {L : List Nat} {b o : Nat} {s : Option Nat} (h : b ∈ L) : VRel (idL L) (.pointer (some ⟨b, o, s⟩)) (.pointer (some ⟨b, o, s⟩)) := .ptr (.mk ⟨rfl, h⟩ o s)
theorem vrel_slice {L : List Nat} {b o : Nat} {s : Option Nat} (h : b ∈ L) (l c : Nat) : VRel (idL L) (.slice (some ⟨b, o, s⟩) l c) (.slice (some ⟨b, o, s⟩) l c) := .slice (.mk ⟨rfl, h⟩ o s) l c
theorem heap_cell {w w1 : World} {a : Addr} (h : w1.heap[a.block]? = w.heap[a.block]?) : w1.cell? a = w.cell? a := by
 unfold World.cell?
 rw [h]
theorem vrel_vals (ρ : BRel) (n : Nat) (h : Nat -> Int) (k : IntKind) : ∀ v ∈ vals k n h, VRel ρ v v := fun v hv => by
 obtain ⟨i, hi, e⟩ := Array.mem_iff_getElem.1 hv
 rw [<- e, vals_get]
 exact .int _ _
theorem step_code {P : Program} {m : Bool} {b : Frame} {a : Act} {k : List Item} {cs : List Frame} {w : World} {x y z : Code} (h : x = .seq y z) : stepG P m (G (b.at a (.code x :: k)) cs) w = .go (G (b.at a (.code y :: .code z :: k)) cs) w #[] := by
 subst h
 exact stepG_seq
theorem step_reg {P : Program} {m : Bool} {b : Frame} {a : Act} {k : List Item} {cs : List Frame} {w : World} {x : Code} {id : Nat} {ops : Array Oper} {l : List Nat} (h : x = .region id ops false) (hl : List.range ops.size = l) : stepG P m (G (b.at a (.code x :: k)) cs) w = .go (G (b.at a (.inRegion ops l :: k)) cs) w #[] := by
 subst h hl
 exact stepG_region
theorem Tame.kept {w w1 : World} {b : Nat} (h : Tame w b) (k : Kept w w1) : Tame w1 b := by
 obtain ⟨c, e, fr, hc⟩ := h
 exact ⟨c, e, fr, by rw [k.keep b (Array.getElem?_eq_some_iff.1 hc).1]; exact hc⟩
theorem Tame.lt {w : World} {b : Nat} (h : Tame w b) : b < w.heap.size := by obtain ⟨c, e, fr, hc⟩ := h; exact (Array.getElem?_eq_some_iff.1 hc).1
theorem Kept.cell {w w1 : World} (k : Kept w w1) {a : Addr} {v : Value} (h : w.cell? a = some v) : w1.cell? a = some v := by
 rw [<- h]
 exact heap_cell (k.keep _ (World.block_lt_of_cell? w a h))
end
section
variable {P : Program} {m : Bool} {S : BSet} {X : BSet -> Goroutine -> World -> Prop} {I I' : BSet -> World -> Prop} {b : Frame} {a : Act} {ops : Array Oper} {i : Nat} {rest : List Nat} {k : List Item} {cs : List Frame} {o : Oper}
theorem All.load (hX : Closed P m S X) (hI : Stab S I) (v : Value) (ad : Addr) (ho : ops[i]? = some o) (hw : Region.wanted o (yielded ops a.tmps) = true) (hk : b.kind ≠ .early)
  (hr : ∀ w, w.cell? ad = some v -> (execOp a.eval o).run P w = .ok (.value v) w /\ (execOp a.eval o).events P w #[] = #[⟨.cell ad, false, false⟩]) (hc : ∀ O w, I O w -> w.cell? ad = some v /\ (O ad.block \/ S ad.block))
  (h : All X I (G (b.at (a.put o.dst v) (.inRegion ops rest :: k)) cs)) : All X I (G (b.at a (.inRegion ops (i :: rest) :: k)) cs) :=
 All.act hX hI fun O w hi => by
  obtain ⟨h1, h2⟩ := hc O w hi
  obtain ⟨h3, h4⟩ := hr w h1
  refine ⟨_, _, _, stepG_value ho hw hk h3, ⟨rfl, rfl, rfl, Nat.le_refl _, fun _ _ _ => rfl, fun e he => ?_⟩, ?_⟩
  ·unfold listed at he
   rw [h4] at he
   have he2 := mem_seen he
   simp at he2
   subst he2
   exact .inr ⟨rfl, ad.block, .inl ⟨ad, rfl, rfl⟩, World.block_lt_of_cell? w ad h1, h2.imp .inl fun x => ⟨x, rfl⟩⟩
  ·rw [grown_self]
   exact h O w hi
theorem All.store (hX : Closed P m S X) (hI : Stab S I) (v : Value) (ad : Addr) (ho : ops[i]? = some o) (hw : Region.wanted o (yielded ops a.tmps) = true) (hk : b.kind ≠ .early)
  (hr : ∀ w u, w.cell? ad = some u -> w.frozen? ad = false -> (execOp a.eval o).run P w = .ok .skip (w.setCell ad v) /\ (execOp a.eval o).events P w #[] = #[⟨.cell ad, true, false⟩]) (hc : ∀ O w, I O w -> (∃ u, w.cell? ad = some u) /\ w.frozen? ad = false /\ O ad.block)
  (hI' : ∀ O w, I O w -> I' O (w.setCell ad v)) (h : All X I' (G (b.at (a.put o.dst undef) (.inRegion ops rest :: k)) cs)) : All X I (G (b.at a (.inRegion ops (i :: rest) :: k)) cs) :=
 All.act hX hI fun O w hi => by
  obtain ⟨⟨u, h1⟩, h2, h5⟩ := hc O w hi
  obtain ⟨h3, h4⟩ := hr w u h1 h2
  have hlt := World.block_lt_of_cell? w ad h1
  have e1 : ((execOp a.eval o).runT P w #[]) = (.ok .skip (w.setCell ad v), #[⟨.cell ad, true, false⟩]) := by
   rw [Sem.runT_eq, h3, h4]
  have hst : stepG P m (G (b.at a (.inRegion ops (i :: rest) :: k)) cs) w = .go (G (b.at (a.put o.dst undef) (.inRegion ops rest :: k)) cs) (w.setCell ad v) (seen P b.fn #[⟨.cell ad, true, false⟩]) := by
   have hfin : (b.at a (.inRegion ops (i :: rest) :: k)).finish undef = b.at (a.put o.dst undef) (.inRegion ops rest :: k) := by rw [Frame.finish_at, ho]; rfl
   have hk' : (b.kind == CallKind.early) = false := by simpa using hk
   rw [stepG_oper ho hw, <- hfin]
   simp [stepG.apply, h3, h4, G, Frame.at, hk', GStep.after]
  have hsz : (w.setCell ad v).heap.size = w.heap.size := by simp [World.setCell]
  refine ⟨_, _, _, hst, ⟨rfl, rfl, rfl, by rw [hsz]; exact Nat.le_refl _, fun x hx hn => ?_, fun e he => ?_⟩, ?_⟩
  ·unfold World.setCell
   dsimp only
   rw [Array.getElem?_modify, if_neg (fun e => hn (by rw [<- e]; exact h5))]
  ·have he2 := mem_seen he
   simp at he2
   subst he2
   exact .inr ⟨rfl, ad.block, .inl ⟨ad, rfl, rfl⟩, by rw [hsz]; exact hlt, .inl (.inl h5)⟩
  ·have eg : grown O w (w.setCell ad v) = O := by
    funext x
    apply propext
    unfold grown
    rw [hsz]
    constructor
    ·rintro (h | ⟨h1, h2⟩)
     ·exact h
     ·omega
    ·exact .inl
   rw [eg]
   exact h O _ (hI' O w hi)
end
end
end Go.Proofs.YtdobjciaikofdaaGreatDoor
