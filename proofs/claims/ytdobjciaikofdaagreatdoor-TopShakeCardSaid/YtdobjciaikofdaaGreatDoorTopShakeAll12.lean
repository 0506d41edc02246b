/- Part 12 of 39 of what the proof of this law needs. Put together by a program out of the texts: WordsB Bytes OwnSet PutA PutB Turned TLoad. -/
import Derived.Test.YtdobjciaikofdaaGreatDoorTopShakeAll11
import Derived.Test.YtdobjciaikofdaaGreatDoorProg
import Derived.Shelf.RegionOpenPlain
import Derived.WalkKit
import Derived.Deep.LoopGhost
import Derived.Lib.Walk
import Derived.Sort.WalkB12
import Derived.Lib.SlicesMore
import Derived.Lib.SliceRun
import Derived.Lib.OwnBridge
namespace Go.Proofs.YtdobjciaikofdaaGreatDoor
section
open Go.RowKit Go.Shelf Bt
attribute [local go_sem] Oper.semAt_some
theorem elt64w : EltT Tryz.prog 190 39 8 := elt_of (k := .u64) Tryz.underlying190 (by kernel_rfl)
theorem or_step64 (x c : Int) (hx : 0 <= x) (hx2 : x < 72057594037927936) (hc : 0 <= c) (hc2 : c < 256) : bits .or .u64 (IntKind.u64.wrap (x * 256)) c = x * 256 + c := by
 rw [show IntKind.u64.wrap (x * 256) = x * 256 % 18446744073709551616 from rfl]
 obtain ⟨a, rfl⟩ := Int.eq_ofNat_of_zero_le hx
 obtain ⟨b, rfl⟩ := Int.eq_ofNat_of_zero_le hc
 have e : (a : Int) * 256 % 18446744073709551616 = ((a * 256 : Nat) : Int) := by omega
 have h1 : a * 256 < 18446744073709551616 := by omega
 have h2 : b < 256 := by omega
 show bits .or .u64 ((a : Int) * 256 % 18446744073709551616) (b : Int) = (a : Int) * 256 + (b : Int)
 rw [e, u64_or_nat _ _ h1 (by omega), nat_join 8 _ _ (by simp) (by simpa using h2)]
 omega
set_option maxRecDepth 100000 in
set_option maxHeartbeats 4000000 in
theorem words64_w (a : Option Addr) (len cap sz : Nat) (hsz : sz = 8) (f : Nat -> Int) (w : World) (hlen : len <= 1000000) (hcap : len <= cap) (hr : reads w a len .u8 f) (hf : ∀ j, j < len -> 0 <= f j /\ f j < 256) :
  Calls Tryz.prog 181 #[.slice a len cap, .int .i64 sz] w fun e w' => ∃ v, e = .returned v /\ owns w' w.heap.size 39 .u64 v (len / sz) (fun j => beN f (j * sz) sz) /\ Below w.heap.size w w' := by
 obtain ⟨b, off, ha⟩ : ∃ b off, 0 < len -> a = some ⟨b, off, none⟩ /\ ∀ j, j < len -> w.cell? ⟨b, off + j, none⟩ = some (.int .u8 (f j)) := by
  rcases Nat.eq_zero_or_pos len with h | h
  ·exact ⟨0, 0, fun h' => absurd h' (by omega)⟩
  ·obtain ⟨b, off, h1, h2⟩ := hr h
   exact ⟨b, off, fun _ => ⟨h1, h2⟩⟩
 clear hr
 have HA := Lib.hid ha
 have HF := Lib.hid hf
 have HS := Lib.hid hsz
 clear ha hf
 obtain ⟨B, hB⟩ : ∃ B, Hid (B = w.heap.size) := ⟨_, Lib.hid rfl⟩
 refine (callsIn_wide (n := 6)).1 ?_
 refine callsIn_of_wp_marks Tryz.func181 rfl trivial ?_
 simp only [Tryz.ntmps181, List.size_toArray, List.length_cons, List.length_nil, Nat.reduceAdd, Nat.reduceSub, Array.replicate_succ, Array.replicate_zero, List.push_toArray, List.append_toArray, List.nil_append, List.cons_append]
 have h4 : 1 <= sz := by omega
 have h5 : sz <= 64 := by omega
 clear hsz
 gi_wp2_with (refine ⟨trivial, ?_⟩; gi_at_call 234; refine (callsIn_wide.2 (chunk_w a len cap sz h4 h5 _)).mono ?_; rintro e w' ⟨rfl, rfl⟩)
 -- THE LOOP
 have HA0 := Lib.hid (fun h : 0 < len => (HA.out h).1)
 obtain ⟨M, hM⟩ : ∃ M, Hid (M = (len - 1) / sz) := ⟨_, Lib.hid rfl⟩
 have bS := Boxed.new w 3 (.int .i64 sz)
 have bO := Boxed.new (w.alloc (.cells #[.int .i64 sz] 3)) 190 (.slice none 0 0)
 have bA := Boxed.new ((w.alloc (.cells #[.int .i64 sz] 3)).alloc (.cells #[.slice none 0 0] 190)) 22 (.slice a len cap)
 have bN := Boxed.new (((w.alloc (.cells #[.int .i64 sz] 3)).alloc (.cells #[.slice none 0 0] 190)).alloc (.cells #[.slice a len cap] 22)) 3 (.int .i64 sz)
 simp only [World.size_alloc] at bS bO bA bN
 have hBl : Below w.heap.size w ((((w.alloc (.cells #[.int .i64 sz] 3)).alloc (.cells #[.slice none 0 0] 190)).alloc (.cells #[.slice a len cap] 22)).alloc (.cells #[.int .i64 sz] 3)) := bl_alloc (bl_alloc (bl_alloc (bl_alloc (bl_refl w))))
 have hsz0 : ((((w.alloc (.cells #[.int .i64 sz] 3)).alloc (.cells #[.slice none 0 0] 190)).alloc (.cells #[.slice a len cap] 22)).alloc (.cells #[.int .i64 sz] 3)).heap.size = w.heap.size + 4 := by simp
 have hst := chunk_stops 5 (by omega) (w.heap.size + 1 + 1) (w.heap.size + 1 + 1 + 1) len cap sz a b off (fun h => HA0.out h) h4 h5 hlen hcap (Kpt (w.heap.size + 4) (w.heap.size + 1))
  (fun W W' h => ⟨h.cell _ (by omega) (by omega), h.cell _ (by omega) (by omega)⟩) ((((w.alloc (.cells #[.int .i64 sz] 3)).alloc (.cells #[.slice none 0 0] 190)).alloc (.cells #[.slice a len cap] 22)).alloc (.cells #[.int .i64 sz] 3)) (bA.alloc _).cell bN.cell
 rw [<- hM.out] at hst
 obtain ⟨W0, hW0⟩ : ∃ W0, (((w.alloc (.cells #[.int .i64 sz] 3)).alloc (.cells #[.slice none 0 0] 190)).alloc (.cells #[.slice a len cap] 22)).alloc (.cells #[.int .i64 sz] 3) = W0 := ⟨_, rfl⟩
 have bS0 : Boxed W0 w.heap.size 3 (.int .i64 sz) := by rw [<- hW0]; exact ((bS.alloc _).alloc _).alloc _
 have bO0 : Boxed W0 (w.heap.size + 1) 190 (.slice none 0 0) := by rw [<- hW0]; exact (bO.alloc _).alloc _
 rw [hW0] at hBl hsz0 hst ⊢
 clear bS bO bA bN hW0
 refine wpIn_rangeFunc_ownG rfl (by omega) (gf := 269) (lb := #[.pointer (some ⟨w.heap.size + 1 + 1, 0, none⟩), .pointer (some ⟨w.heap.size + 1 + 1 + 1, 0, none⟩)]) rfl trivial (enters_of Tryz.func269 (by kernel_rfl) rfl)
  hst (fun h k => h.trans k) (Kpt.putObj (Nat.le_of_eq hsz0.symm)) (Below.refl _ _) (fun _ => rfl)
  (fun pre W => ((∃ v, Boxed W (w.heap.size + 1) 190 v /\ W.ownsRow (w.heap.size + 4) 39 1 v pre.length (vals .u64 pre.length (fun j => beN f (min (pre.getD j 0) M * sz) sz)).toList /\ (∀ x ∈ pre, (min x M + 1) * sz <= len)) /\ (W.cell? ⟨w.heap.size, 0, none⟩ = some (.int .i64 sz))) /\ Below w.heap.size W0 W)
  (fun c pre W => (c = .exit 0 /\ ∃ ini x, pre = ini ++ [x] /\ len < (min x M + 1) * sz /\ (∃ v, Boxed W (w.heap.size + 1) 190 v /\ W.ownsRow (w.heap.size + 4) 39 1 v ini.length (vals .u64 ini.length (fun j => beN f (min (ini.getD j 0) M * sz) sz)).toList /\ (∀ x ∈ ini, (min x M + 1) * sz <= len))) /\ Below w.heap.size W0 W)
  ?hI ?hIx ?h0 (fun x => { tmps := #[.slice a len cap, .int .i64 sz, undef, .pointer (some ⟨w.heap.size, 0, none⟩), .slice none 0 0, .pointer (some ⟨w.heap.size + 1, 0, none⟩), chunkV b off len sz (min x M), undef, undef, undef, .slice a len cap, .int .i64 sz, .func (.func 269) #[] #[.pointer (some ⟨w.heap.size + 1 + 1, 0, none⟩), .pointer (some ⟨w.heap.size + 1 + 1 + 1, 0, none⟩)], chunkV b off len sz (min x M), undef, undef, undef, undef, undef, undef, undef, undef, undef, undef, undef, undef, undef, undef, undef, undef, undef, undef, undef, undef, undef], defers := [] }) ?assign ?body ?done ?stop
 case hI =>
  exact OwnFrom.and (Own.from (fun s A B row hs hg hr => ⟨holdsRow_own (w.heap.size + 4) (w.heap.size + 1) 190 39 1 (fun pre : List Nat => pre.length) (fun pre => (vals .u64 pre.length (fun j => beN f (min (pre.getD j 0) M * sz) sz)).toList) (fun pre _ => ∀ x ∈ pre, (min x M + 1) * sz <= len) s A B row hs.1 hg hr, cell_kept hs.2 hg hr⟩) _) (ownFrom_below (by omega) (by omega))
 case hIx =>
  intro c
  refine OwnFrom.and (Own.from (fun s A B row hs hg hr => ?_) _) (ownFrom_below (by omega) (by omega))
  obtain ⟨hc, ini, x, e1, e2, hv⟩ := hs
  exact ⟨hc, ini, x, e1, e2, holdsRow_own (w.heap.size + 4) (w.heap.size + 1) 190 39 1 (fun pre : List Nat => pre.length) (fun pre => (vals .u64 pre.length (fun j => beN f (min (pre.getD j 0) M * sz) sz)).toList) (fun pre _ => ∀ x ∈ pre, (min x M + 1) * sz <= len) ini A B row hv hg hr⟩
 case h0 => exact ⟨⟨⟨_, bO0, World.ownsRow_nil _ _ _ _, by simp⟩, bS0.cell⟩, Below.refl _ _⟩
 case assign =>
  intro l x W K hK
  gi_wp2
  exact hK
 case body =>
  rintro l pre x W ⟨⟨⟨v, hv, hrow, hall⟩, hcs⟩, hbel⟩ hpre
  have HO := Lib.hid hrow
  have HL := Lib.hid hall
  have HB := Lib.hid hbel
  have HV := Lib.hid hv
  have HP : Hid (pre.length <= 1000000) := Lib.hid (by have := hM.out; have := Nat.div_le_self (len - 1) sz; omega)
  obtain ⟨q, hq⟩ : ∃ q, Hid (q = min x M * sz) := ⟨_, Lib.hid rfl⟩
  have e1 : (min x M + 1) * sz = q + sz := by rw [Nat.add_mul, Nat.one_mul, <- hq.out]
  have E1 := Lib.hid e1
  clear hrow hall hbel e1 hst
  by_cases hfull : q + sz <= len
  ·have hcv : chunkV b off len sz (min x M) = .slice (some ⟨b, off + q, none⟩) sz sz := by
    unfold chunkV
    rw [<- hq.out, Nat.min_eq_left (by omega)]
   rw [hcv]
   clear hcv
   have hlt2 : ¬ (sz : Int) < (sz : Int) := by omega
   have hcb := hv.cell
   clear hv
   gi_wp2
   gi_loop [7, 20] (fun u i => ∃ j : Nat, j <= sz /\ i = .int .i64 j /\ u = .int .u64 (beN f q j)) (fun _ i => sz - (intOf i).toNat)
   case atStart => exact ⟨0, by omega, rfl, rfl⟩
   case round =>
    obtain ⟨j, hj, rfl, rfl⟩ := hrel
    by_cases hlt : j < sz
    ·have hcell : W.cell? ⟨b, off + q + j, none⟩ = some (.int .u8 (f (q + j))) := by
      have h0 := (HA.out (by omega)).2 (q + j) (by omega)
      rw [Nat.add_assoc]
      exact ((hBl.trans HB.out).cell (p := ⟨b, off + (q + j), none⟩) (cell_lt h0)).trans h0
     obtain ⟨c0, c1⟩ := HF.out (q + j) (by omega)
     obtain ⟨x0, x1⟩ := beN_bd f q j (fun i hi => HF.out (q + i) (by omega))
     have x2 : (256 : Int) ^ j <= 256 ^ 7 := pow256_le (by have := HS.out; omega)
     have hstep := or_step64 (beN f q j) (f (q + j)) x0 (by omega) c0 c1
     clear x1 x2
     gi_wp2
     go_round
     case rel => exact ⟨j + 1, by omega, by go_num, rfl⟩
     case measure => simp [intOf]; omega
    ·obtain rfl : sz = j := by omega
     gi_wp2_with (gi_at_builtin; refine append_one_in elt64w rfl (.tmp 30) (.tmp 32) rfl rfl HO.out rfl rfl (by have := HP.out; unfold maxLen; omega) (by have := HP.out; omega) (by have := HB.out.size; omega) ?_; intro g1 cap1 w1 ho1 hg1; have BA := Lib.hid (box_appended (n₀ := w.heap.size) (by omega) (by omega) (by have := HB.out.size; omega) HV.out (by decide) HO.out ho1 hg1); have hcb1 := BA.out.1.cell; have hfb1 := BA.out.1.frozen; clear ho1 hg1)
     obtain ⟨_, g2, g3, g4, g5, g6⟩ := BA.out
     refine ⟨g4.from _, g6, ⟨⟨_, g2, ?_, ?_⟩, ?_⟩, HB.out.trans g5⟩
     ·rw [List.length_append]
      refine owns_ext (fun i hi => ?_) g3
      by_cases h1 : i < pre.length
      ·simp only [if_pos h1]
       exact (congrArg (fun z => beN f (min z M * sz) sz) (getD_append_lt pre x h1)).symm
      ·obtain rfl : i = pre.length := by have h2 : i < pre.length + 1 := hi; omega
       rw [if_neg h1]
       exact ((congrArg (fun z => beN f (min z M * sz) sz) (getD_append_at pre x)).trans (by show beN f (min x M * sz) sz = _; rw [<- hq.out])).symm
     ·intro y hy
      rcases List.mem_append.1 hy with h1 | h1
      ·exact HL.out y h1
      ·obtain rfl : y = x := by simpa using h1
       rw [E1.out]
       exact hfull
     ·exact (g6.cell _ (by omega) (by omega)).trans hcs
  ·obtain ⟨m, cp, hcv, hlt2⟩ : ∃ m cp, chunkV b off len sz (min x M) = .slice (some ⟨b, off + q, none⟩) m cp /\ m < sz := by
    unfold chunkV
    rw [<- hq.out]
    exact ⟨_, _, rfl, by omega⟩
   rw [hcv]
   clear hcv
   have hlt3 : (m : Int) < (sz : Int) := by omega
   have hcb := hv.cell
   clear hv
   gi_wp2
   exact ⟨KeepsFrom.refl _ _, ⟨rfl, pre, x, rfl, by rw [E1.out]; omega, v, HV.out, HO.out, HL.out⟩, HB.out⟩
 case done =>
  rintro D ys W hD rfl ⟨⟨⟨v, hv, hrow, hall⟩, _⟩, hbel⟩ hK
  obtain ⟨q1, q2⟩ := chunks_full h4 (by rw [<- hM.out]; exact hall)
  rw [List.length_range, q1] at hrow
  have hown := owns_base (base' := w.heap.size) (by omega) (owns_ext (w := W) (g := fun j => beN f (j * sz) sz) (fun j hj => by rw [getD_range hj, hM.out, q2 j hj]) hrow)
  have hc := hv.cell
  have hbl := hBl.trans hbel
  clear hall q2
  gi_wp2
  refine ⟨by simp, .inl ⟨_, _, rfl, run_takeDeferred hK, ?_⟩⟩
  exact ⟨_, results_tmp rfl _ _ _, v, rfl, ownsRow_putObj hown _ hK rfl, hbl.trans (belowK_b (w := w) (Nat.le_refl _) W D _ _ (by omega) hK rfl rfl)⟩
 case stop =>
  rintro D c pre W hD ⟨k, hk, rfl⟩ ⟨⟨rfl, ini, x, e1, e2, v, hv, hrow, hall⟩, hbel⟩ hK
  obtain ⟨rfl, rfl, q1, q2⟩ := chunks_short h4 hk e1 (by rw [<- hM.out]; exact e2)
  rw [List.length_range, <- q1] at hrow
  have hown := owns_base (base' := w.heap.size) (by omega) (owns_ext (w := W) (g := fun j => beN f (j * sz) sz) (fun j hj => by rw [getD_range (by omega), hM.out, q2 j (by omega)]) hrow)
  have hc := hv.cell
  have hbl := hBl.trans hbel
  clear hall q2
  gi_wp2
  refine ⟨by simp, .inl ⟨_, _, rfl, run_takeDeferred hK, ?_⟩⟩
  exact ⟨_, results_tmp rfl _ _ _, v, rfl, ownsRow_putObj hown _ hK rfl, hbl.trans (belowK_b (w := w) (Nat.le_refl _) W D _ _ (by omega) hK rfl rfl)⟩
end
section
open Go.RowKit Go.Shelf Go.Lib Go.Sort
theorem elt8w : EltT Tryz.prog 22 5 1 := elt_of (k := .u8) Tryz.underlying22 (by kernel_rfl)
theorem vals_append (k : IntKind) (n m : Nat) (f g : Nat -> Int) : (vals k n f).toList ++ (vals k m g).toList = (vals k (n + m) (fun j => if j < n then f j else g (j - n))).toList := by
 apply List.ext_getElem?
 intro j
 rw [List.getElem?_append]
 simp only [Array.getElem?_toList, Array.length_toList, vals_size]
 by_cases h : j < n
 ·rw [if_pos h, vals_get? _ _ _ _ h, vals_get? _ _ _ _ (by omega), if_pos h]
 ·rw [if_neg h]
  by_cases h2 : j < n + m
  ·rw [vals_get? _ _ _ _ (by omega), vals_get? _ _ _ _ h2, if_neg h]
  ·rw [Array.getElem?_eq_none (by rw [vals_size]; omega), Array.getElem?_eq_none (by rw [vals_size]; omega)]
theorem vals_one {k : IntKind} {n : Nat} {f : Nat -> Int} : ∀ u ∈ (vals k n f).toList, u.oneCell' = true := by
 intro u hu
 simp only [vals, List.mem_map, List.mem_range] at hu
 obtain ⟨j, _, rfl⟩ := hu
 rfl
theorem reads_news {w : World} {ad : Addr} {n : Nat} {k : IntKind} {f : Nat -> Int} (h : reads w (some ad) n k f) : ∀ (j : Nat) (u : Value), (vals k n f).toList[j]? = some u -> w.cell? (ad.add j) = some u := by
 intro j u hu
 have hj : j < n := by
  rcases Nat.lt_or_ge j n with h1 | h1
  ·exact h1
  ·rw [Array.getElem?_toList, Array.getElem?_eq_none (by rw [vals_size]; omega)] at hu
   cases hu
 obtain ⟨b, off, e, hc⟩ := h (by omega)
 cases e
 rw [Array.getElem?_toList, vals_get? _ _ _ _ hj] at hu
 rw [Addr.add_lit, hc j hj]
 exact hu
section
variable {P : Program} {ops : Array Oper} {rest : List Oper} {o : Oper} {a : Act} {w : World} {Q : Exit -> Act -> World -> Prop}
theorem append_many {T e : TypeId} {bytes : Nat} (hT : EltT P T e bytes) (hgd : o.guard = none) (s x : Operand) (ho : o.op = .call { callee := .builtin .append, args := #[s, x], argTypes := #[T, T] })
  {base : Nat} {k : IntKind} {v : Value} {n : Nat} {f : Nat -> Int} (hs : a.eval s = v) (hown : owns w base e k v n f) {ad : Addr} {m c : Nat} {g : Nat -> Int}
  (hx : a.eval x = .slice (some ad) m c) (hr : reads w (some ad) m k g) (hn : n + m <= maxLen) (hby : (n + m) * bytes <= 140737488355328) (hbase : base <= w.heap.size)
  (h : ∀ v' w', owns w' base e k v' (n + m) (fun j => if j < n then f j else g (j - n)) -> w.grownBy w' v.ownBlock -> wpList P ops Q rest (a.put o.dst v') w') : wpList P ops Q (o :: rest) a w := by
 obtain ⟨hu, i, z, hi, hz, h1, h2, h3⟩ := hT
 refine wpList_append_own _ hgd s x T ho base e i z 1 bytes hu hi hz h1 h2 h3 (by decide) v n (vals k n f).toList hs hown ad m c (vals k m g).toList hx (by simp [vals_size]) (reads_news hr) vals_one hn hby hbase ?_
 intro v' w' h' hg _
 refine h v' w' ?_ hg
 unfold owns
 rw [<- vals_append]
 exact h'
end
set_option maxRecDepth 100000 in
theorem clone8_w (a : Option Addr) (len cap : Nat) (f : Nat -> Int) (w : World) (hlen : len <= 1000000000) (hr : reads w a len .u8 f) :
  Calls Tryz.prog 64 #[.slice a len cap] w fun e w' => ∃ v, e = .returned v /\ owns w' w.heap.size 5 .u8 v len f /\ Below w.heap.size w w' := by
 have q1 : ∀ (w : World) (a : Option Addr) (n c n' c' : Nat), (binOp .eql 22 (.slice a n c) (.slice none n' c')).run Tryz.prog w = .ok (.bool a.isNone) w := fun w a n c n' c' => Lib.run_eql_slice_nil w _ _ a n c n' c' Tryz.underlying22
 have u1 : ∀ w, Sem.run Tryz.prog (underlying 22) w = .ok (TypeDesc.slice 5) w := run_underlying Tryz.underlying22
 cases a with
 | none =>
  obtain rfl : len = 0 := by
   rcases Nat.eq_zero_or_pos len with h | h
   ·exact h
   ·obtain ⟨_, _, e, _⟩ := hr h
    cases e
  clear hr
  go_enter Tryz.func64, Tryz.ntmps64
  go_wp2
  go_ret
  exact ⟨_, rfl, owns_nil _ _ _ _ _, Below.refl _ _⟩
 | some ad =>
  have HR := Lib.hid hr
  clear hr
  go_enter Tryz.func64, Tryz.ntmps64
  go_wp2_with (at_builtin; refine append_many elt8w rfl (.tmp 5) (.tmp 6) rfl (k := .u8) (f := f) (n := 0) rfl (World.ownsRow_made w #[] 0 (Nat.le_refl _) (Nat.zero_le _) rfl) rfl (reads_alloc _ HR.out) (by unfold maxLen; omega) (by omega) (by simp) ?_; intro v' w1 hown hgrow)
  go_ret
  have hown2 : owns w1 w.heap.size 5 .u8 v' len f := by
   have h1 := owns_ext (g := f) (fun j _ => by simp) hown
   rwa [Nat.zero_add] at h1
  refine ⟨_, rfl, hown2, ?_⟩
  exact ((Below.refl _ w).alloc (Nat.le_refl _) _).grown hgrow (by simp) (by intro k hk; have e : some w.heap.size = some k := hk; cases e; exact Nat.le_refl _)
abbrev encB : Int -> Value := fun x => Value.int .u8 x
set_option maxHeartbeats 1600000 in
set_option maxRecDepth 100000 in
theorem reverse8_w (blk off cap : Nat) (d : Array Int) (w : World) (hH : Holds encB w blk off d) (hsz : d.size <= 1000000) :
  Calls Tryz.prog 235 #[.slice (some ⟨blk, off, none⟩) d.size cap] w fun e w' => e = .returned (.tuple #[]) /\ ∃ n, w' = putRow encB (Sort.ahead w n) blk off d.reverse := by
 go_enter Tryz.func235, Tryz.ntmps235
 go_wp2
 go_loopg [2, 3] d.size (fun k s2 s3 wr => ∃ (i jn : Nat) (jz : Int) (dk : Array Int) (n : Nat), s2 = .int .i64 i /\ s3 = .int .i64 jz /\ ((i : Int) < jz -> jz = jn /\ jn < d.size) /\ (¬ (i : Int) < jz -> ¬ i < jn) /\ jn - i <= k /\
  dk.size = d.size /\ wr = putRow encB (Sort.ahead w n) blk off dk /\ reverseLoop i jn dk = reverseLoop 0 (d.size - 1) d)
 case atStart => exact ⟨0, d.size - 1, (d.size : Int) - 1, d, 0, rfl, rfl, fun h => ⟨by omega, by omega⟩, fun h => by omega, by omega, rfl, (putRow_self encB w blk off d hH).symm, rfl⟩
 case round =>
  obtain ⟨i, jn, jz, dk, n, rfl, rfl, h1, h2, hk, hds, hwr, heq⟩ := hrel
  by_cases hlt : (i : Int) < jz
  ·obtain ⟨rfl, hjn⟩ := h1 hlt
   have hij : i < jn := by omega
   have hHk : Holds encB wr blk off dk := by rw [hwr]; exact holds_putRow encB _ blk off d dk (holds_ahead encB w n blk off d hH) hds
   obtain ⟨ci, fi⟩ := hHk i (by omega)
   obtain ⟨cj, fj⟩ := hHk jn (by omega)
   have A : Aside (wr = putRow encB (Sort.ahead w n) blk off dk) := hwr
   clear hwr hHk hH h1 h2
   go_wp2_with fail
   go_region
   go_wp2
   go_roundg (jn - 1 - (i + 1))
   case measure => omega
   case rel =>
    rw [reverseLoop, if_pos hij] at heq
    exact ⟨i + 1, jn - 1, (jn : Int) - 1, swp dk i jn, n + 1, by simp, rfl, fun h => ⟨by omega, by omega⟩, fun h => by omega, Nat.le_refl _, by rw [size_swp]; exact hds,
     swap_world encB (by omega) (by omega) A.out (by first | rfl | simp [encB, getElem!_pos, show jn < dk.size by omega]) (by first | rfl | simp [encB, getElem!_pos, show i < dk.size by omega]), heq⟩
  ·have hnot := h2 hlt
   go_wp2
   go_end0
   refine ⟨rfl, n, ?_⟩
   rw [reverseLoop, if_neg hnot] at heq
   rw [<- Lib.reverseLoop_reverse, <- heq]
end
section
open Go.RowKit Go.Shelf Go.Lib Go.Sort
theorem heap_mapBlock (w : World) (g : Nat) (F : Array Value -> Array Value) {cur : Array Value} {e : TypeId} {fr : Nat × Nat} (h : w.heap[g]? = some (.cells cur e fr)) : (mapBlock w g F).heap[g]? = some (.cells (F cur) e fr) := by
 simp [mapBlock, Array.getElem?_modify, h, onCells]
theorem heap_mapBlock_other (w : World) (g : Nat) (F : Array Value -> Array Value) {k : Nat} (h : k ≠ g) : (mapBlock w g F).heap[k]? = w.heap[k]? := by
 simp [mapBlock, Array.getElem?_modify, show g ≠ k from fun e => h e.symm]
theorem size_mapBlock (w : World) (g : Nat) (F : Array Value -> Array Value) : (mapBlock w g F).heap.size = w.heap.size := by simp [mapBlock]
theorem grownBy_mapBlock (w : World) (g : Nat) (F : Array Value -> Array Value) : w.grownBy (mapBlock w g F) (some g) :=
 ⟨rfl, rfl, rfl, by rw [size_mapBlock]; exact Nat.le_refl _, fun k _ hk => heap_mapBlock_other w g F (fun e => hk (by rw [e]))⟩
theorem grownBy_putRow (w : World) (g off q : Nat) (d : Array Int) : w.grownBy (putRow encB (Sort.ahead w q) g off d) (some g) :=
 ⟨rfl, rfl, rfl, by simp [Sort.ahead], fun k _ hk => by
  unfold putRow
  rw [heap_mapBlock_other _ _ _ (fun e => hk (by rw [e]))]
  rfl⟩
theorem below_own {n₀ g : Nat} {w w' : World} (h : w.grownBy w' (some g)) (hg : n₀ <= g) (hn : n₀ <= w.heap.size) : Below n₀ w w' :=
 (Below.refl n₀ w).grown h hn (fun k e => by cases e; exact hg)
theorem owns_at {w : World} {base : Nat} {e : TypeId} {k : IntKind} {v : Value} {n : Nat} {f : Nat -> Int} (h : owns w base e k v n f) (hn : 0 < n) :
  ∃ g cap, v = .slice (some ⟨g, 0, none⟩) n cap /\ n <= cap /\ base <= g /\ g < w.heap.size /\ ∀ j, j < n -> w.cell? ⟨g, j, none⟩ = some (.int k (f j)) /\ w.frozen? ⟨g, j, none⟩ = false := by
 have h0 := h
 rcases h.2 with ⟨_, h1⟩ | ⟨g, cap, cur, rfl, hb, hg, hnc, hc, hs, ht⟩
 ·omega
 ·refine ⟨g, cap, rfl, hnc, hb, ?_, fun j hj => ⟨?_, by simp [World.frozen?, hg]⟩⟩
  ·rcases Nat.lt_or_ge g w.heap.size with hl | hl
   ·exact hl
   ·simp [hl] at hg
  ·rw [World.ownsRow.cellAt h0 j (by omega), <- vals_get? k n f j hj]
   simp
theorem owns_mapBlock {w : World} {base : Nat} {e : TypeId} {k : IntKind} {n g cap : Nat} {f f' : Nat -> Int} (h : owns w base e k (.slice (some ⟨g, 0, none⟩) n cap) n f) (F : Array Value -> Array Value) (hF : ∀ c, (F c).size = c.size)
  (hc : ∀ c : Array Value, (∀ j, j < n -> c[j]? = some (.int k (f j))) -> ∀ j, j < n -> (F c)[j]? = some (.int k (f' j))) : owns (mapBlock w g F) base e k (.slice (some ⟨g, 0, none⟩) n cap) n f' := by
 rcases h.2 with ⟨e0, _⟩ | ⟨g', cap', cur, e0, hb, hg, hnc, hcm, hs, ht⟩
 ·cases e0
 ·injection e0 with e1 _ e3
  injection e1 with e1
  injection e1 with e1
  subst e1; subst e3
  have hcur : ∀ j, j < n -> cur[j]? = some (.int k (f j)) := by
   intro j hj
   have e1 : (cur.toList.take (n * 1))[j]? = (vals k n f).toList[j]? := by rw [ht]
   rw [List.getElem?_take, if_pos (by omega), Array.getElem?_toList, Array.getElem?_toList, vals_get? k n f j hj] at e1
   exact e1
  refine ⟨by simp [vals_size], .inr ⟨g, cap, F cur, rfl, hb, heap_mapBlock w g F hg, hnc, hcm, by rw [hF]; exact hs, ?_⟩⟩
  apply List.ext_getElem?
  intro j
  rw [List.getElem?_take]
  by_cases hj : j < n
  ·rw [if_pos (by omega), Array.getElem?_toList, Array.getElem?_toList, vals_get? k n f' j hj, hc cur hcur j hj]
  ·rw [if_neg (by omega), Array.getElem?_toList, Array.getElem?_eq_none (by rw [vals_size]; omega)]
theorem owns_setCell {w : World} {base : Nat} {e : TypeId} {k : IntKind} {n g cap : Nat} {f : Nat -> Int} (h : owns w base e k (.slice (some ⟨g, 0, none⟩) n cap) n f) (i : Nat) (y : Int) :
  owns (w.setCell ⟨g, i, none⟩ (.int k y)) base e k (.slice (some ⟨g, 0, none⟩) n cap) n (fun j => if j = i then y else f j) := by
 rw [setCell_eq]
 refine owns_mapBlock h _ (by simp) fun c hc j hj => ?_
 have hlt : j < c.size := by
  have := hc j hj
  exact (Array.getElem?_eq_some_iff.1 this).1
 rw [Array.getElem?_setIfInBounds]
 by_cases hji : j = i
 ·subst hji
  simp [hlt]
 ·rw [if_neg (fun e => hji e.symm), if_neg hji, hc j hj]
theorem owns_putRow {w : World} {base : Nat} {e : TypeId} {n g cap : Nat} {f : Nat -> Int} (h : owns w base e .u8 (.slice (some ⟨g, 0, none⟩) n cap) n f) (off q : Nat) (d : Array Int) :
  owns (putRow encB (Sort.ahead w q) g off d) base e .u8 (.slice (some ⟨g, 0, none⟩) n cap) n (fun j => if off <= j /\ j < off + d.size then d[j - off]! else f j) := by
 have h' : owns (Sort.ahead w q) base e .u8 (.slice (some ⟨g, 0, none⟩) n cap) n f := h
 refine owns_mapBlock h' _ (by simp [putCells]) fun c hc j hj => ?_
 simp only [putCells, Array.getElem?_mapIdx, hc j hj, Option.map_some]
 split <;> rfl
def arrN (f : Nat -> Int) (o n : Nat) : Array Int := ((List.range n).map (fun j => f (o + j))).toArray
theorem size_arrN (f : Nat -> Int) (o n : Nat) : (arrN f o n).size = n := by simp [arrN]
theorem arrN_get (f : Nat -> Int) (o n : Nat) {j : Nat} (h : j < n) : (arrN f o n)[j]! = f (o + j) := by
 rw [getElem!_pos _ j (by rw [size_arrN]; exact h)]
 simp [arrN]
theorem arrN_rev (f : Nat -> Int) (o n : Nat) {j : Nat} (h : j < n) : (arrN f o n).reverse[j]! = f (o + (n - 1 - j)) := by
 rw [getElem!_pos _ j (by rw [Array.size_reverse, size_arrN]; exact h), Array.getElem_reverse]
 simp [arrN]
theorem holds_arrN {w : World} {g o n : Nat} {f : Nat -> Int} (h : ∀ j, j < n -> w.cell? ⟨g, o + j, none⟩ = some (.int .u8 (f (o + j))) /\ w.frozen? ⟨g, o + j, none⟩ = false) : Holds encB w g o (arrN f o n) := by
 intro j hj
 rw [size_arrN] at hj
 rw [arrN_get f o n hj]
 exact h j hj
theorem byte_shr (x m : Nat) : (x : Int) / 2 ^ (8 * m) % 256 = ((x / 256 ^ m % 256 : Nat) : Int) := by
 have e : (x : Int) / 2 ^ (8 * m) = ((x / 256 ^ m : Nat) : Int) := by
  rw [show (256 : Nat) ^ m = 2 ^ (8 * m) by rw [Nat.pow_mul]]
  simp
 rw [e]
 rfl
def revAt (f : Nat -> Int) (o sz : Nat) (j : Nat) : Int := if o <= j /\ j < o + sz then f (o + (sz - 1 - (j - o))) else f j
def turnT (sz len M : Nat) (h : Nat -> Int) (x : Nat) : Nat -> Int := if min x M * sz + sz <= len then revAt h (min x M * sz) sz else h
def foldT (f : Nat -> Int) (sz len M : Nat) (pre : List Nat) : Nat -> Int := pre.foldl (turnT sz len M) f
theorem foldT_snoc (f : Nat -> Int) (sz len M : Nat) (pre : List Nat) (x : Nat) : foldT f sz len M (pre ++ [x]) = turnT sz len M (foldT f sz len M pre) x := by simp [foldT]
def turnI (f : Nat -> Int) (sz len j : Nat) : Int := if (j / sz + 1) * sz <= len then f (j / sz * sz + (sz - 1 - j % sz)) else f j
theorem foldT_range (f : Nat -> Int) (sz len : Nat) (h : 1 <= sz) : ∀ c, c * sz < len + sz -> ∀ j, foldT f sz len ((len - 1) / sz) (List.range c) j = if j / sz < c then turnI f sz len j else f j
 | 0, _, j => by simp [foldT]
 | c + 1, hc, j => by
  rw [Nat.succ_mul] at hc
  have ih := foldT_range f sz len h c (by omega)
  rw [List.range_succ, foldT_snoc]
  have hM : min c ((len - 1) / sz) = c := Nat.min_eq_left ((Nat.le_div_iff_mul_le (by omega)).2 (by omega))
  unfold turnT
  rw [hM]
  obtain ⟨o, ho⟩ : ∃ o, o = c * sz := ⟨_, rfl⟩
  have hj1 := Nat.div_add_mod j sz
  have hj2 := Nat.mod_lt j (show 0 < sz by omega)
  rw [Nat.mul_comm] at hj1
  rw [<- ho] at hc ⊢
  have hdiv : ∀ i, i / sz = c ↔ o <= i /\ i < o + sz := by
   intro i
   constructor
   ·intro e
    have h1 := Nat.div_add_mod i sz
    have h2 := Nat.mod_lt i (show 0 < sz by omega)
    rw [e, Nat.mul_comm, <- ho] at h1
    omega
   ·intro ⟨e1, e2⟩
    have h1 : c <= i / sz := (Nat.le_div_iff_mul_le (by omega)).2 (by omega)
    have h2 : i / sz < c + 1 := (Nat.div_lt_iff_lt_mul (by omega)).2 (by rw [Nat.succ_mul]; omega)
    omega
  by_cases hin : j / sz = c
  ·obtain ⟨e1, e2⟩ := (hdiv j).1 hin
   have e3 : j % sz = j - o := by rw [hin, <- ho] at hj1; omega
   by_cases hfull : o + sz <= len
   ·rw [if_pos hfull, if_pos (by omega)]
    unfold revAt
    rw [if_pos ⟨e1, e2⟩, ih, if_neg (by rw [(hdiv _).2 ⟨by omega, by omega⟩]; omega)]
    unfold turnI
    rw [hin, Nat.succ_mul, <- ho, if_pos hfull, e3]
   ·rw [if_neg hfull, ih, if_neg (by omega), if_pos (by omega)]
    unfold turnI
    rw [hin, Nat.succ_mul, <- ho, if_neg hfull]
  ·have hnin : ¬ (o <= j /\ j < o + sz) := fun e => hin ((hdiv j).2 e)
   have e4 : (if o + sz <= len then revAt (foldT f sz len ((len - 1) / sz) (List.range c)) o sz else foldT f sz len ((len - 1) / sz) (List.range c)) j = foldT f sz len ((len - 1) / sz) (List.range c) j := by
    split
    ·unfold revAt
     rw [if_neg hnin]
    ·rfl
   rw [e4, ih]
   by_cases hlt : j / sz < c
   ·rw [if_pos hlt, if_pos (by omega)]
   ·rw [if_neg hlt, if_neg (by omega)]
end
section
open Go.RowKit Go.Shelf
attribute [local go_sem] Oper.semAt_some
end
section
open Go.RowKit Go.Shelf
attribute [local go_sem] Oper.semAt_some
def putI64 (f : Nat -> Nat) (j : Nat) : Int := ((f (j / 8) / 256 ^ (7 - j % 8) % 256 : Nat) : Int)
set_option maxRecDepth 100000 in
theorem put64_w (a : Option Addr) (n cap : Nat) (f : Nat -> Nat) (w : World) (hn : n <= 100000) (hr : reads w a n .u64 (fun j => (f j : Int))) (hf : ∀ j, j < n -> f j < 18446744073709551616) :
  Calls Tryz.prog 175 #[.int .i64 8, .slice a n cap] w fun e w' => ∃ v, e = .returned v /\ owns w' w.heap.size 5 .u8 v (n * 8) (putI64 f) /\ Below w.heap.size w w' := by
 have HR := Lib.hid hr
 have HF := Lib.hid hf
 clear hr hf
 obtain ⟨hu, i0, z0, hi0, hz0, hs1, hs2, hs3⟩ := elt8w
 go_enter Tryz.func175, Tryz.ntmps175
 go_wp2_with (at_make; refine wpList_make_own _ rfl _ _ 22 rfl w.heap.size 5 i0 z0 1 hu hi0 hz0 hs1 _ _ _ (n * 8) rfl rfl (by omega) (by rw [hs2]; omega) (by unfold maxLen; omega) (by omega) ?_; intro w1 ho1 hg1)
 have HO1 : Hid (owns w1 w.heap.size 5 .u8 (.slice (some ⟨w.heap.size, 0, none⟩) 0 (n * 8)) 0 (putI64 f)) := Lib.hid ho1
 have HB1 : Hid (Below w.heap.size w w1) := Lib.hid ((Below.refl _ w).grown hg1 (Nat.le_refl _) (by intro k hk; cases hk))
 clear ho1 hg1
 go_loopw [5, 16] (fun v i wr => ∃ k : Nat, k <= n /\ i = .int .i64 k /\ Hid (owns wr w.heap.size 5 .u8 v (k * 8) (putI64 f)) /\ Hid (Below w.heap.size w wr)) (fun _ i _ => n - (intOf i).toNat)
 case atStart => exact ⟨0, by omega, rfl, Lib.hid (by rw [Nat.zero_mul]; exact HO1.out), HB1⟩
 case round =>
  obtain ⟨k, hk, rfl, HO, HB⟩ := hrel
  by_cases hlt : k < n
  ·obtain ⟨b, off, rfl, hc⟩ := reads_below (Nat.le_refl _) HB.out HR.out (by omega)
   have hcell := hc k hlt
   have hfk := HF.out k hlt
   clear hc
   obtain ⟨x, hx⟩ : ∃ x, Hid (x = f k) := ⟨_, Lib.hid rfl⟩
   simp only [<- hx.out] at hcell hfk
   go_wp2
   clear hcell
   go_loopw [5, 8] (fun v i wr => ∃ m : Nat, m <= 8 /\ i = .int .i64 ((m : Int) - 1) /\ Hid (owns wr w.heap.size 5 .u8 v (k * 8 + (8 - m)) (putI64 f)) /\ Hid (Below w.heap.size w wr)) (fun _ i _ => (intOf i + 1).toNat)
   case atStart => exact ⟨8, by omega, rfl, HO, HB⟩
   case round =>
    clear HO HB
    obtain ⟨m', hm, rfl, HO, HB⟩ := hrel
    cases m' with
    | zero =>
     go_wp2
     go_roundw
     case rel => exact ⟨k + 1, by omega, by go_num, Lib.hid (by rw [Nat.succ_mul]; exact HO.out), HB⟩
     case measure => simp [intOf]; omega
    | succ m =>
     have e : ((m + 1 : Nat) : Int) - 1 = (m : Int) := by omega
     rw [e]
     clear e
     go_wp2_with (at_builtin; refine append_one elt8w rfl (.tmp 26) (.tmp 32) rfl rfl HO.out rfl rfl (by unfold maxLen; omega) (by omega) (by have := HB.out.size; omega) ?_; intro v' w2 hown hbl)
     go_roundw
     case rel =>
      refine ⟨m, by omega, by go_num, Lib.hid ?_, Lib.hid (HB.out.trans hbl)⟩
      rw [show k * 8 + (8 - m) = k * 8 + (8 - (m + 1)) + 1 by omega]
      refine owns_ext (fun j hj => ?_) hown
      by_cases h : j < k * 8 + (8 - (m + 1))
      ·rw [if_pos h]
      ·obtain rfl : j = k * 8 + (7 - m) := by omega
       rw [if_neg h]
       unfold putI64
       rw [show (k * 8 + (7 - m)) / 8 = k by omega, show 7 - (k * 8 + (7 - m)) % 8 = m by omega, <- hx.out]
       exact byte_shr x m
     case measure => first | (simp [intOf]; done) | (simp [intOf]; omega)
  ·obtain rfl : n = k := by omega
   go_wp2
   go_ret
   exact ⟨_, rfl, HO.out, HB.out⟩
end
section
open Go.RowKit Go.Shelf Go.Lib Go.Sort
attribute [local go_sem] Oper.semAt_some
theorem owns_kept {X Y : World} {row : Option Nat} {base : Nat} {e : TypeId} {k : IntKind} {v : Value} {n : Nat} {f : Nat -> Int} (hr : owns X base e k v n f) (hg : X.grownBy Y row) (hrow : ∀ r, row = some r -> ∃ o : Obj, X.heap[r]? = some o /\ o.isCells = false) : owns Y base e k v n f := by
 refine World.ownsRow.kept hr hg ?_
 rcases hr.2 with ⟨rfl, _⟩ | ⟨g, cap, cur, rfl, _, hgb, _⟩
 ·exact .inl rfl
 ·refine .inr fun e' => ?_
  obtain ⟨o, ho, hc⟩ := hrow g (by simpa [Value.ownBlock] using e'.symm)
  rw [hgb] at ho; cases ho; cases hc
set_option maxRecDepth 100000 in
set_option maxHeartbeats 4000000 in
theorem turned_w (a : Option Addr) (len cap sz : Nat) (h4 : 1 <= sz) (h5 : sz <= 64) (f : Nat -> Int) (w : World) (hlen : len <= 1000000) (hr : reads w a len .u8 f) :
  Calls Tryz.prog 176 #[.slice a len cap, .int .i64 sz] w fun e w' => ∃ v, e = .returned v /\ owns w' w.heap.size 5 .u8 v len (turnI f sz len) /\ Below w.heap.size w w' := by
 have HR := Lib.hid hr
 clear hr
 refine (callsIn_wide (n := 6)).1 ?_
 refine callsIn_of_wp_marks Tryz.func176 rfl trivial ?_
 simp only [Tryz.ntmps176, List.size_toArray, List.length_cons, List.length_nil, Nat.reduceAdd, Nat.reduceSub, Array.replicate_succ, Array.replicate_zero, List.push_toArray, List.append_toArray, List.nil_append, List.cons_append]
 have bS := Boxed.new w 3 (.int .i64 sz)
 gi_wp2_with (first | (refine ⟨trivial, ?_⟩; gi_at_call 64; refine (callsIn_wide.2 (clone8_w a len cap f _ (by omega) (reads_alloc _ HR.out))).mono ?_; rintro e w1 ⟨v, rfl, ho1, hb1⟩; obtain ⟨av, c, rfl, hlc, hcm, hrd⟩ := owns_reads ho1; clear hrd; have hcS := (hb1.cell (p := ⟨w.heap.size, 0, none⟩) (by simp)).trans bS.cell) | (refine ⟨trivial, ?_⟩; gi_at_call 234; refine (callsIn_wide.2 (chunk_w av len c sz h4 h5 _)).mono ?_; rintro e w' ⟨rfl, rfl⟩))
 have hs1 : w.heap.size + 1 <= w1.heap.size := by have := hb1.size; simpa using this
 obtain ⟨g, hgv, hg1, hg2, hg3⟩ : ∃ g, (0 < len -> av = some ⟨g, 0, none⟩ /\ w.heap.size + 1 <= g /\ g < w1.heap.size) /\ g ≠ w.heap.size /\ g ≠ w1.heap.size /\ g ≠ w1.heap.size + 1 := by
  rcases Nat.eq_zero_or_pos len with h | h
  ·exact ⟨w1.heap.size + 2, fun h' => absurd h' (by omega), by omega, by omega, by omega⟩
  ·obtain ⟨g, cap', e, _, hb, hl, _⟩ := owns_at ho1 h
   injection e with e _ _
   have hb' : w.heap.size + 1 <= g := by simpa using hb
   exact ⟨g, fun _ => ⟨e, hb', hl⟩, by omega, by omega, by omega⟩
 obtain ⟨M, hM⟩ : ∃ M, Hid (M = (len - 1) / sz) := ⟨_, Lib.hid rfl⟩
 have bA := Boxed.new w1 22 (.slice av len c)
 have bN := Boxed.new (w1.alloc (.cells #[.slice av len c] 22)) 3 (.int .i64 sz)
 simp only [World.size_alloc] at bN
 have hBl : RowKit.Below w.heap.size w ((w1.alloc (.cells #[.slice av len c] 22)).alloc (.cells #[.int .i64 sz] 3)) := bl_alloc (bl_alloc (bl_call (bl_alloc (bl_refl w)) hb1))
 have hsz0 : ((w1.alloc (.cells #[.slice av len c] 22)).alloc (.cells #[.int .i64 sz] 3)).heap.size = w1.heap.size + 2 := by simp
 have HG := Lib.hid hgv
 have hst := chunk_stops 5 (by omega) w1.heap.size (w1.heap.size + 1) len c sz av g 0 (fun h => (HG.out h).1) h4 h5 hlen hlc (Kpt (w1.heap.size + 2) g)
  (fun W W' h => ⟨h.cell _ (by omega) (by omega), h.cell _ (by omega) (by omega)⟩) ((w1.alloc (.cells #[.slice av len c] 22)).alloc (.cells #[.int .i64 sz] 3)) (bA.alloc _).cell bN.cell
 rw [<- hM.out] at hst
 have hcS0 : ((w1.alloc (.cells #[.slice av len c] 22)).alloc (.cells #[.int .i64 sz] 3)).cell? ⟨w.heap.size, 0, none⟩ = some (.int .i64 sz) := by
  exact Lib.cell?_alloc_some _ (Lib.cell?_alloc_some _ hcS)
 have ho0 : owns ((w1.alloc (.cells #[.slice av len c] 22)).alloc (.cells #[.int .i64 sz] 3)) (w.heap.size + 1) 5 .u8 (.slice av len c) len f := by
  have h := (ho1.alloc (.cells #[.slice av len c] 22)).alloc (.cells #[.int .i64 sz] 3)
  rw [World.size_alloc] at h
  exact h
 obtain ⟨W0, hW0⟩ : ∃ W0, (w1.alloc (.cells #[.slice av len c] 22)).alloc (.cells #[.int .i64 sz] 3) = W0 := ⟨_, rfl⟩
 rw [hW0] at hBl hsz0 hst hcS0 ho0 ⊢
 clear bS bA bN hW0 ho1 hb1 hcS hgv
 refine wpIn_rangeFunc_ownG rfl (by omega) (gf := 269) (lb := #[.pointer (some ⟨w1.heap.size, 0, none⟩), .pointer (some ⟨w1.heap.size + 1, 0, none⟩)]) rfl trivial (enters_of Tryz.func269 (by kernel_rfl) rfl)
  hst (fun h k => h.trans k) (Kpt.putObj (Nat.le_of_eq hsz0.symm)) (Below.refl _ _) (fun _ => rfl)
  (fun pre W => ((owns W (w.heap.size + 1) 5 .u8 (.slice av len c) len (foldT f sz len M pre) /\ W.cell? ⟨w.heap.size, 0, none⟩ = some (.int .i64 sz)) /\ Below w.heap.size W0 W))
  (fun _ _ _ => False)
  ?hI (fun _ _ _ _ _ hs _ _ => hs) ?h0 (fun x => { tmps := #[.slice a len cap, .int .i64 sz, undef, .pointer (some ⟨w.heap.size, 0, none⟩), .slice none 0 0, .slice av len c, chunkV g 0 len sz (min x M), .slice a len cap, .slice av len c, .slice av len c, .int .i64 sz, .func (.func 269) #[] #[.pointer (some ⟨w1.heap.size, 0, none⟩), .pointer (some ⟨w1.heap.size + 1, 0, none⟩)], chunkV g 0 len sz (min x M), undef, undef, undef, undef, undef, undef, undef], defers := [] }) ?assign ?body ?done ?stop
 case hI =>
  exact OwnFrom.and (Own.from (fun s A B row hs hg hr => ⟨owns_kept hs.1 hg hr, Go.cell_kept hs.2 hg hr⟩) _) (ownFrom_below (by omega) (by omega))
 case h0 => exact ⟨⟨ho0, hcS0⟩, Below.refl _ _⟩
 case assign =>
  intro l x W K hK
  gi_wp2
  exact hK
 case body =>
  rintro l pre x W ⟨⟨hrow, hcs⟩, hbel⟩ hpre
  have HO := Lib.hid hrow
  have HB := Lib.hid hbel
  obtain ⟨q, hq⟩ : ∃ q, Hid (q = min x M * sz) := ⟨_, Lib.hid rfl⟩
  clear hrow hbel hst
  by_cases hfull : q + sz <= len
  ·have hcv : chunkV g 0 len sz (min x M) = .slice (some ⟨g, q, none⟩) sz sz := by
    unfold chunkV
    rw [<- hq.out, Nat.min_eq_left (by omega), Nat.zero_add]
   rw [hcv]
   clear hcv
   obtain ⟨e1, e2, e3⟩ := HG.out (by omega)
   subst e1
   obtain ⟨g', c', e, hcc, _, _, hcells⟩ := owns_at HO.out (by omega)
   cases e
   have hH : Holds encB W g q (arrN (foldT f sz len M pre) q sz) := holds_arrN (fun j hj => hcells (q + j) (by omega))
   have hRv := reverse8_w g q sz (arrN (foldT f sz len M pre) q sz) W hH (by rw [size_arrN]; omega)
   rw [size_arrN] at hRv
   have HRV := Lib.hid hRv
   clear hRv hH hcells
   gi_wp2_with (refine ⟨trivial, ?_⟩; gi_at_call 235; refine (CallsIn.inRound l (callsIn_wide.2 HRV.out)).mono ?_; rintro e w' ⟨rfl, n, rfl⟩)
   have hgr := grownBy_putRow W g q n (arrN (foldT f sz len M pre) q sz).reverse
   have hBg := below_own (n₀ := w.heap.size) hgr (by omega) (by have := HB.out.size; omega)
   have hKp : Kpt (w1.heap.size + 2) g W (putRow encB (Sort.ahead W n) g q (arrN (foldT f sz len M pre) q sz).reverse) := fun k hk hne => hgr.block k (by have := HB.out.size; omega) (fun e => hne (by cases e; rfl))
   refine ⟨KeepsFrom.of_grownBy hgr (fun j e => by cases e; omega), hKp, ⟨?_, (hKp.cell _ (by omega) (by omega)).trans hcs⟩, HB.out.trans hBg⟩
   rw [foldT_snoc]
   refine owns_ext (fun j hj => ?_) (owns_putRow HO.out q n _)
   have hss : (arrN (foldT f sz len M pre) q sz).reverse.size = sz := by rw [Array.size_reverse, size_arrN]
   rw [hss]
   unfold turnT
   rw [<- hq.out, if_pos hfull]
   unfold revAt
   by_cases h : q <= j /\ j < q + sz
   ·rw [if_pos h, if_pos h, arrN_rev _ _ _ (by omega)]
   ·rw [if_neg h, if_neg h]
  ·obtain ⟨m, hcv, hlt2⟩ : ∃ m, chunkV g 0 len sz (min x M) = .slice (some ⟨g, q, none⟩) m m /\ m < sz := by
    unfold chunkV
    rw [<- hq.out, Nat.zero_add]
    exact ⟨_, rfl, by omega⟩
   rw [hcv]
   clear hcv
   have hlt3 : ¬ (m : Int) = (sz : Int) := by omega
   gi_wp2
   refine ⟨KeepsFrom.refl _ _, Kpt.refl _ _ _, ⟨?_, hcs⟩, HB.out⟩
   rw [foldT_snoc]
   unfold turnT
   rw [<- hq.out, if_neg hfull]
   exact HO.out
 case done =>
  rintro D ys W hD rfl ⟨⟨hrow, _⟩, hbel⟩ hK
  have hbl := hBl.trans hbel
  gi_wp2
  refine ⟨by simp, .inl ⟨_, _, rfl, run_takeDeferred hK, ?_⟩⟩
  refine ⟨_, results_tmp rfl _ _ _, _, rfl, ?_, hbl.trans (belowK_b (w := w) (Nat.le_refl _) W D _ _ (by omega) hK rfl rfl)⟩
  have h := owns_base (base' := w.heap.size) (by omega) hrow
  refine ownsRow_putObj (owns_ext (fun j hj => ?_) h) _ hK rfl
  have h6 : (len + sz - 1) / sz * sz < len + sz := by
   have := Nat.div_mul_le_self (len + sz - 1) sz
   omega
  rw [hM.out, foldT_range f sz len h4 _ h6, if_pos]
  have h7 := Nat.div_add_mod (len + sz - 1) sz
  have h8 := Nat.mod_lt (len + sz - 1) (show 0 < sz by omega)
  rw [Nat.mul_comm] at h7
  exact (Nat.div_lt_iff_lt_mul (by omega)).2 (by omega)
 case stop =>
  rintro D c pre W _ _ h _
  exact h.elim
end
section
open Go.RowKit Go.Shelf
def leN (f : Nat -> Int) (q : Nat) : Nat -> Int := beN (fun i => f (q + (7 - i))) 0
theorem turnI_bd {f : Nat -> Int} {sz len : Nat} (h : 1 <= sz) (hf : ∀ j, j < len -> 0 <= f j /\ f j < 256) : ∀ j, j < len -> 0 <= turnI f sz len j /\ turnI f sz len j < 256 := by
 intro j hj
 unfold turnI
 split
 ·rename_i h1
  rw [Nat.succ_mul] at h1
  have := Nat.mod_lt j (show 0 < sz by omega)
  exact hf _ (by omega)
 ·exact hf j hj
theorem turnI_beN {f : Nat -> Int} {len : Nat} {j : Nat} (hj : j < len / 8) : beN (turnI f 8 len) (j * 8) 8 = leN f (j * 8) 8 := by
 unfold leN
 refine beN_congr 8 fun i hi => ?_
 unfold turnI
 rw [if_pos (by omega)]
 congr 1
 omega
theorem little64_w (a : Option Addr) (len cap : Nat) (f : Nat -> Int) (w : World) (hlen : len <= 1000000) (hr : reads w a len .u8 f) (hf : ∀ j, j < len -> 0 <= f j /\ f j < 256) :
  Calls Tryz.prog 182 #[.slice a len cap] w fun e w' => ∃ v, e = .returned v /\ owns w' w.heap.size 39 .u64 v (len / 8) (fun j => leN f (j * 8) 8) /\ RowKit.Below w.heap.size w w' := by
 have HC := Lib.hid (turned_w a len cap 8 (by omega) (by omega) f w hlen hr)
 have HF := Lib.hid (turnI_bd (sz := 8) (by omega) hf)
 clear hr hf
 go_enter Tryz.func182, Tryz.ntmps182
 go_wp2_with (first | (go_at_call 176; refine HC.out.mono ?_; rintro e w1 ⟨v, rfl, ho, hb⟩; obtain ⟨a1, c1, rfl, hc1, _, hr1⟩ := owns_reads ho; have HR1 := Lib.hid hr1; clear hr1) | (go_at_call 181; refine (words64_w a1 len c1 8 rfl (turnI f 8 len) w1 hlen hc1 HR1.out HF.out).mono ?_; rintro e w2 ⟨v, rfl, ho2, hb2⟩))
 go_ret
 exact ⟨_, rfl, owns_base hb.size (owns_ext (fun j hj => turnI_beN hj) ho2), hb.trans (hb2.mono hb.size)⟩
def putL64 (f : Nat -> Nat) (j : Nat) : Int := ((f (j / 8) / 256 ^ (j % 8) % 256 : Nat) : Int)
theorem turnI_put (f : Nat -> Nat) (n j : Nat) (hj : j < n * 8) : turnI (putI64 f) 8 (n * 8) j = putL64 f j := by
 unfold turnI
 rw [if_pos (by omega)]
 unfold putI64 putL64
 rw [show (j / 8 * 8 + (8 - 1 - j % 8)) / 8 = j / 8 by omega, show 7 - (j / 8 * 8 + (8 - 1 - j % 8)) % 8 = j % 8 by omega]
theorem putLittle64_w (a : Option Addr) (n cap : Nat) (f : Nat -> Nat) (w : World) (hn : n <= 100000) (hr : reads w a n .u64 (fun j => (f j : Int))) (hf : ∀ j, j < n -> f j < 18446744073709551616) :
  Calls Tryz.prog 114 #[.slice a n cap] w fun e w' => ∃ v, e = .returned v /\ owns w' w.heap.size 5 .u8 v (n * 8) (putL64 f) /\ RowKit.Below w.heap.size w w' := by
 have HC := Lib.hid (put64_w a n cap f w hn hr hf)
 clear hr hf
 go_enter Tryz.func114, Tryz.ntmps114
 go_wp2_with (first | (go_at_call 175; refine HC.out.mono ?_; rintro e w1 ⟨v, rfl, ho, hb⟩; obtain ⟨a1, c1, rfl, hc1, _, hr1⟩ := owns_reads ho; have HR1 := Lib.hid hr1; clear hr1) | (go_at_call 176; refine (turned_w a1 (n * 8) c1 8 (by omega) (by omega) (putI64 f) w1 (by omega) HR1.out).mono ?_; rintro e w2 ⟨v, rfl, ho2, hb2⟩))
 go_ret
 exact ⟨_, rfl, owns_base hb.size (owns_ext (fun j hj => turnI_put f n j hj) ho2), hb.trans (hb2.mono hb.size)⟩
theorem reads_new (w : World) {cs : Array Value} (e : TypeId) {n : Nat} {k : IntKind} (f : Nat -> Int) (h : cs = vals k n f) : reads (w.alloc (.cells cs e)) (some ⟨w.heap.size, 0, none⟩) n k f := by
 subst h
 intro _
 refine ⟨_, _, rfl, fun j hj => ?_⟩
 rw [World.cell?_alloc_new, Nat.zero_add, vals_get? _ _ _ _ hj]
end
end Go.Proofs.YtdobjciaikofdaaGreatDoor
