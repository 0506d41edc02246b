/- Layer 14 (lane): Xor, Out. -/
import Derived.Test.YtohieonpegeokaaRefLaneXor
namespace Go.Proofs.Ytohieonpegeokaa
open Go.RowKit Go.Shelf
attribute [local go_sem] vals_set vals_get? vals_get vals_size rowAt_at rowAt_past hasRow_at hasRow_past run_loadRow run_storeCells_row setRow_at setRow_past rowAt_drewN hasRow_drewN setRow_drewN alloc_drewN setCell_drewN lt_s2 lt_s3 lt_s4 lt_s5 lt_s6
attribute [local go_sem ↓] loadRow_is

theorem step_copy_at {P : Program} {ops : Array Oper} {o : Oper} {a : Act} {w : World} {K : Act → World → Prop} {Q : Exit → Act → World → Prop} {E : Prop} {T sT e : TypeId} (hu : P.underlying T = some (.slice e)) (hsz : (P.info? e).map (·.size) = some 1) (hgd : o.guard = none) (d s : Operand) (ho : o.op = .call { callee := .builtin .copy, args := #[d, s], argTypes := #[T, sT] })
    {base g F L N c c' n cap : Nat} {ad : Addr} {k : IntKind} {f h : Nat → Int} (hd : a.eval d = .slice (some ⟨g, F, none⟩) L c) (hs : a.eval s = .slice (some ad) N c') (hown : owns w base e k (.slice (some ⟨g, 0, none⟩) n cap) n f) (hr : reads w (some ad) N k h) (hNL : N ≤ L) (hFN : F + N ≤ n)
    (hK : ∀ w', owns w' base e k (.slice (some ⟨g, 0, none⟩) n cap) n (fun j => if F ≤ j ∧ j < F + N then h (j - F) else f j) → w.grownBy w' (some g) → K (a.put o.dst (goInt N)) w') : if Region.wanted o (yielded ops a.tmps) = true then Oper.wp P o a w K Q else E := by
  have hw : Region.wanted o (yielded ops a.tmps) = true := by simp [Region.wanted, hgd]
  rw [if_pos hw]
  rcases hown.2 with ⟨e0, _⟩ | ⟨g', cap', cur, e0, hb, hg, hnc, hcm, hcs, ht⟩
  · cases e0
  injection e0 with e1 _ e3
  injection e1 with e1
  injection e1 with e1
  subst e1; subst e3
  have e2 : (vals k N h).toList.length = N := by simp [vals_size]
  have hrun := run_copy_row (P := P) w T sT o.type e g F L c ad N c' cur e (vals k N h).toList hu hsz hg (by rw [e2]; exact (Nat.min_eq_left hNL).symm) (reads_news hr) (by rw [e2]; omega) vals_one
  rw [e2] at hrun
  have hcur : ∀ j, j < n → cur[j]? = some (.int k (f j)) := by
    intro j hj
    have e1 : (cur.toList.take (n * 1))[j]? = (vals k n f).toList[j]? := by rw [ht]
    rw [List.getElem?_take, if_pos (by omega), Array.getElem?_toList, Array.getElem?_toList, vals_get? k n f j hj] at e1
    exact e1
  obtain ⟨c2, hc2⟩ : ∃ c2, c2 = (cur.toList.take F ++ (vals k N h).toList ++ cur.toList.drop (F + N)).toArray := ⟨_, rfl⟩
  rw [← hc2] at hrun
  have hl1 : (cur.toList.take F).length = F := by rw [List.length_take, Array.length_toList]; omega
  have hsize : c2.size = cap * 1 := by
    rw [hc2]
    simp only [List.size_toArray, List.length_append, hl1, e2, List.length_drop, Array.length_toList]
    omega
  have hel : ∀ j, j < n → c2[j]? = some (.int k (if F ≤ j ∧ j < F + N then h (j - F) else f j)) := by
    intro j hj
    rw [hc2, List.getElem?_toArray]
    by_cases h1 : j < F
    · rw [List.append_assoc, List.getElem?_append_left (by rw [hl1]; exact h1), List.getElem?_take, if_pos h1, Array.getElem?_toList, hcur j hj, if_neg (by omega)]
    · by_cases h2 : j < F + N
      · rw [List.append_assoc, List.getElem?_append_right (by rw [hl1]; omega), hl1, List.getElem?_append_left (by rw [e2]; omega), Array.getElem?_toList, vals_get? k N h (j - F) (by omega), if_pos (by omega)]
      · rw [List.getElem?_append_right (by rw [List.length_append, hl1, e2]; omega), List.length_append, hl1, e2, List.getElem?_drop, show F + N + (j - (F + N)) = j by omega, Array.getElem?_toList, hcur j hj, if_neg (by omega)]
  have hown2 : owns (w.setRow g c2) base e k (.slice (some ⟨g, 0, none⟩) n cap) n (fun j => if F ≤ j ∧ j < F + N then h (j - F) else f j) := by
    refine ⟨by simp [vals_size], .inr ⟨g, cap, c2, rfl, hb, setRow_heap w g cur _ e _ hg, hnc, hcm, hsize, ?_⟩⟩
    apply List.ext_getElem?
    intro j
    rw [List.getElem?_take]
    by_cases hj : j < n
    · rw [if_pos (by omega), Array.getElem?_toList, Array.getElem?_toList, vals_get? k n _ j hj, hel j hj]
    · rw [if_neg (by omega), Array.getElem?_toList, Array.getElem?_eq_none (by rw [vals_size]; omega)]
  unfold Oper.wp
  simp [execOp, ho, resolve, invoke, builtin, hd, hs, hrun, Result.andThen]
  exact hK _ hown2 ⟨rfl, rfl, rfl, by simp [World.setRow], fun k _ hk => setRow_other w g k _ (fun e => hk (by rw [e]))⟩

theorem lt_of_hasRow {w : World} {g n : Nat} (h : hasRow w g n) : g < w.heap.size := by
  obtain ⟨c, t, hg, _⟩ := h
  rcases Nat.lt_or_ge g w.heap.size with hl | hl
  · exact hl
  · simp [hl] at hg
theorem leN_byte (f : Nat → Nat) (j : Nat) (hf : f j < 18446744073709551616) : leN (fun t => (byteL f t : Int)) (j * 8) 8 = (f j : Int) := putL64_word f j hf
set_option maxRecDepth 100000 in
set_option maxHeartbeats 2000000 in
theorem lxorL_w (f : Nat → Nat) (hf : ∀ j, j < 25 → f j < 18446744073709551616) (i : Int) (hi : -9223372036854775808 ≤ i ∧ i < 9223372036854775808) (b : Option Addr) (n cb : Nat) (hcb : n ≤ cb) (g : Nat → Nat) (w : World) (hn : n ≤ 100000) (hr : reads w b n .u8 (fun j => (g j : Int))) (hg : ∀ j, j < n → g j < 256) :
    Calls Try.prog 58 #[.agg (vals .u64 25 (fun j => (f j : Int))), .int .i64 i, .slice b n cb] w fun e w' => e = .returned (.agg (vals .u64 25 (fun j => leN (fun t => (xorB f i n g t : Int)) (j * 8) 8))) ∧ Below w.heap.size w w' := by
  have HR := Lib.hid hr
  have HG := Lib.hid hg
  have HF := Lib.hid hf
  have hi1 := hi.1
  have hi2 := hi.2
  clear hr hg hf
  have hz := zero25
  have CW := Lib.hid (fun W => window_w i n hi ⟨by omega, by omega⟩ W)
  clear hi
  by_cases h0 : winM i n = 0
  · have hsame : vals .u64 25 (fun j => leN (fun t => (xorB f i n g t : Int)) (j * 8) 8) = vals .u64 25 (fun j => (f j : Int)) := by
      refine vals_ext _ _ fun j hj => ?_
      rw [← leN_byte f j (HF.out j hj)]
      congr 1
      funext t
      unfold xorB
      rw [if_neg (by omega)]
    rw [hsame]
    clear hsame
    rw [h0] at CW
    go_enter Try.func58, Try.ntmps58
    go_wp2_with (go_at_call 74; (with_reducible refine (CW.out _).mono ?_); rintro e w1 ⟨rfl, rfl⟩)
    refine bodyPost_ret (results_row arr25 rfl _ (w.heap.size + 1) rfl (by go_simp)) rfl ⟨?_, ?_⟩
    · go_simp
    · exact bl_alloc (bl_alloc (bl_refl w))
  · obtain ⟨F, hF⟩ : ∃ F, Hid (F = winF i n) := ⟨_, Lib.hid rfl⟩
    obtain ⟨N, hN⟩ : ∃ N, Hid (N = winM i n) := ⟨_, Lib.hid rfl⟩
    obtain ⟨o, ho⟩ : ∃ o, Hid (o = (max i 0 - i).toNat) := ⟨_, Lib.hid rfl⟩
    have hcond : ¬ ((n : Int) ≤ 0 ∨ 200 ≤ i ∨ i ≤ -(n : Int)) := fun h => h0 (by unfold winM; rw [if_pos h])
    have eF : F = i.toNat := by rw [hF.out]; unfold winF; rw [if_neg hcond]
    have eN : N = (min ((n : Int) - (max i 0 - i)) (200 - max i 0)).toNat := by rw [hN.out]; unfold winM; rw [if_neg hcond]
    have eo := ho.out
    have hio : (F : Int) - i = (o : Int) := by omega
    have hon : o < n := by omega
    have hNo : N ≤ n - o := by omega
    have hFN : F + N ≤ 200 := by omega
    have hN0 : 0 < N := by omega
    have hF2 : F < 200 := by omega
    have hob : o < cb := by omega
    have EF : Hid (∀ t : Nat, F ≤ t → ((t : Int) - i).toNat = o + (t - F)) := Lib.hid (fun t ht => by omega)
    clear eF eN eo hcond h0
    have CW2 : Hid (∀ W, Calls Try.prog 74 #[.int .i64 i, .int .i64 n] W fun e w' => e = .returned (.tuple #[.int .i64 F, .int .i64 N]) ∧ w' = W) := Lib.hid (by rw [hF.out, hN.out]; exact CW.out)
    clear CW
    go_enter Try.func58, Try.ntmps58
    go_wp2_with (go_at_call 74; (with_reducible refine (CW2.out _).mono ?_); rintro e w1 ⟨rfl, rfl⟩)
    clear hz CW2
    have q2 : hasRow ((w.alloc (.cells (vals .u64 25 (fun j => (f j : Int))) 56)).alloc (.cells (vals .u64 25 (fun _ => 0)) 56)) (w.heap.size + 1) 25 := hasRow_at _ _ _ _ _ (by simp) (vals_size _ _ _)
    have q3 : Below w.heap.size w ((w.alloc (.cells (vals .u64 25 (fun j => (f j : Int))) 56)).alloc (.cells (vals .u64 25 (fun _ => 0)) 56)) := bl_alloc (bl_alloc (bl_refl w))
    have q4 : ((w.alloc (.cells (vals .u64 25 (fun j => (f j : Int))) 56)).alloc (.cells (vals .u64 25 (fun _ => 0)) 56)).heap.size = w.heap.size + 2 := by simp
    generalize (w.alloc (.cells (vals .u64 25 (fun j => (f j : Int))) 56)).alloc (.cells (vals .u64 25 (fun _ => 0)) 56) = W2 at q2 q3 q4 ⊢
    refine (lbytes_w f W2 HF.out).mono ?_
    rintro e w3 ⟨v, rfl, ho3, hb⟩
    obtain ⟨gk, ck, rfl, hck, hgk, _, hcs⟩ := owns_at ho3 (by decide)
    have hgk2 : w.heap.size + 2 ≤ gk := by omega
    have hFk : F < ck := by omega
    obtain ⟨b2, o2, rfl, hcb2⟩ := reads_below (Nat.le_refl _) (bl_call q3 hb) HR.out (by omega)
    have P1 := Lib.hid (owns_base (base' := w.heap.size + 2) (by omega) ho3)
    have P2 := Lib.hid (hasRow_below (Nat.le_refl _) hb q2)
    have P3 := Lib.hid (bl_call q3 hb).drew
    have R1 : reads w3.drew (some ⟨gk, F, none⟩) N .u8 (fun j => (byteL f (F + j) : Int)) := fun _ => ⟨gk, F, rfl, fun j hj => (hcs (F + j) (by omega)).1⟩
    have R2 : reads w3.drew (some ⟨b2, o2 + o, none⟩) (n - o) .u8 (fun j => (g (o + j) : Int)) := fun _ => ⟨b2, o2 + o, rfl, fun j hj => by rw [Nat.add_assoc]; exact hcb2 (o + j) (by omega)⟩
    have CX0 := (lxor_w (some ⟨gk, F, none⟩) (some ⟨b2, o2 + o, none⟩) N (ck - F) (n - o) (cb - o) (fun j => byteL f (F + j)) (fun j => g (o + j)) w3.drew (by omega) (by omega) (by omega) R1 R2 (fun j _ => byteL_lt _ _) (fun j hj => HG.out _ (by omega)))
    have eL : ((F : Int) + (N : Int)).toNat - F = N := by omega
    rw [Nat.min_eq_left hNo] at CX0
    have CX : Hid (Calls Try.prog 52 #[.slice (some ⟨gk, F, none⟩) (((F : Int) + (N : Int)).toNat - F) (ck - F), .slice (some ⟨b2, o2 + o, none⟩) (n - o) (cb - o)] w3.drew fun e w' => ∃ v, e = .returned v ∧ owns w' w3.drew.heap.size 5 .u8 v N (fun j => ((byteL f (F + j) ^^^ g (o + j) : Nat) : Int)) ∧ Below w3.drew.heap.size w3.drew w') := Lib.hid (by rw [eL]; exact CX0)
    clear ho3 hb hgk hcs hcb2 q2 q3 q4 R1 R2 CX0 eL
    have hckF : ¬ ck = F := by omega
    have hcbo : ¬ cb = o := by omega
    have hf0 : (0 : Int) ≤ (F : Int) := by omega
    have hf1 : (F : Int) ≤ 200 := by omega
    have hf2 : (F : Int) ≤ (F : Int) + (N : Int) := by omega
    have hf3 : (F : Int) + (N : Int) ≤ (ck : Int) := by omega
    have hw1 : IntKind.i64.wrap ((F : Int) + (N : Int)) = (F : Int) + (N : Int) := by rw [IntKind.wrap_i64]; omega
    have hw2 : IntKind.i64.wrap (o : Int) = (o : Int) := by rw [IntKind.wrap_i64]; omega
    have ho0 : (0 : Int) ≤ (o : Int) := by omega
    have ho1 : (o : Int) ≤ (n : Int) := by omega
    go_wp2_with fail
    go_region_held3 (fun W => Below w.heap.size w W) (first | assumption | exact P3.out | exact P5.out | exact P8.out) (first | (go_at_call 52; (with_reducible refine CX.out.mono ?_); rintro e w4 ⟨v, rfl, ho4, hb4⟩; obtain ⟨g4, c4, rfl, _, _, _, _⟩ := owns_at ho4 hN0; obtain ⟨_, _, e2, _, _, hr4⟩ := owns_reads ho4; cases e2; have R4 := Lib.hid hr4; have P5 := Lib.hid (bl_call P3.out hb4); have P6 := Lib.hid (owns_below (Nat.le_refl _) hb4 P1.out); have P7 := Lib.hid (hasRow_below (Nat.le_refl _) hb4 P2.out); clear ho4 hb4 hr4) | (refine step_copy_at Try.underlying41 (by kernel_rfl) rfl (.tmp 26) (.tmp 38) rfl rfl rfl P6.out R4.out (by omega) hFN ?_; intro w5 k1 k2; have P8 := Lib.hid (P5.out.trans (below_own k2 (by omega) P5.out.size)); have P9 := Lib.hid (hasRow_grown k2 (by omega) P7.out); have P10 := Lib.hid k1; clear k1 k2))
    have eX : ∀ t, t < 200 → (if F ≤ t ∧ t < F + N then ((byteL f (F + (t - F)) ^^^ g (o + (t - F)) : Nat) : Int) else putL64 f t) = (xorB f i n g t : Int) := by
      intro t ht
      unfold xorB
      rw [← hF.out, ← hN.out]
      by_cases h : F ≤ t ∧ t < F + N
      · rw [if_pos h, if_pos h, EF.out t h.1, show F + (t - F) = t by omega]
      · rw [if_neg h, if_neg h]
        rfl
    obtain ⟨_, _, e6, _, _, hr6⟩ := owns_reads P10.out
    cases e6
    have CO := Lib.hid (lof_yes_w _ ck (fun j => (xorB f i n g j : Int)) w5 (reads_ext eX hr6) (fun j hj => by have := xorB_lt f i n g HG.out j; omega))
    clear CX hr6 eX P1 P2 P3 P5 P6 P7 hf0 hf1 hf2 hf3 hw1 hw2 ho0 ho1 R4
    have hz := zero25
    go_wp2_with (go_at_call 56; (with_reducible refine CO.out.mono ?_); rintro e w6 ⟨rfl, hb6⟩; have p9 := hasRow_below (Nat.le_refl _) hb6 P9.out; have P11 := Lib.hid (bl_call P8.out hb6); have hlt6 := lt_of_hasRow p9)
    obtain ⟨r1, r2, r3⟩ := row_setRow p9 (vals .u64 25 (fun j => leN (fun t => (xorB f i n g t : Int)) (j * 8) 8)) (vals_size _ _ _)
    have hlt7 : w.heap.size + 1 < (w6.setRow (w.heap.size + 1) (vals .u64 25 (fun j => leN (fun t => (xorB f i n g t : Int)) (j * 8) 8))).heap.size := lt_of_hasRow r1
    refine bodyPost_ret (results_row arr25 rfl _ (w.heap.size + 1) rfl (by rw [hasRow_past _ _ _ _ hlt7]; exact r1)) rfl ⟨?_, ?_⟩
    · rw [rowAt_past _ _ _ hlt7, r2]
    · have hbb := P11.out.trans (below_setRow' (w := w6) (B := w.heap.size) (g := w.heap.size + 1) (by omega) (vals .u64 25 (fun j => leN (fun t => (xorB f i n g t : Int)) (j * 8) 8)))
      exact hbb.alloc hbb.size _
theorem winF_lt (i n : Int) : winF i n < 200 := by
  unfold winF
  split <;> omega
set_option maxRecDepth 100000 in
set_option maxHeartbeats 2000000 in
theorem lout_w (f : Nat → Nat) (hf : ∀ j, j < 25 → f j < 18446744073709551616) (i n : Int) (hi : -9223372036854775808 ≤ i ∧ i < 9223372036854775808) (hn : -9223372036854775808 ≤ n ∧ n < 9223372036854775808) (w : World) :
    Calls Try.prog 60 #[.agg (vals .u64 25 (fun j => (f j : Int))), .int .i64 i, .int .i64 n] w fun e w' => ∃ v, e = .returned v ∧ owns w' w.heap.size 5 .u8 v (winM i n) (fun j => (byteL f (winF i n + j) : Int)) ∧ Below w.heap.size w w' := by
  have HF := Lib.hid hf
  clear hf
  have CW := Lib.hid (fun W => window_w i n hi hn W)
  clear hi hn
  have hFN := win_le i n
  have hF2 := winF_lt i n
  obtain ⟨F, hF⟩ : ∃ F, Hid (F = winF i n) := ⟨_, Lib.hid rfl⟩
  obtain ⟨N, hN⟩ : ∃ N, Hid (N = winM i n) := ⟨_, Lib.hid rfl⟩
  rw [← hF.out, ← hN.out] at CW hFN
  rw [← hF.out] at hF2
  rw [← hF.out, ← hN.out]
  go_enter Try.func60, Try.ntmps60
  go_wp2_with (go_at_call 74; (with_reducible refine (CW.out _).mono ?_); rintro e w1 ⟨rfl, rfl⟩)
  have q3 : Below w.heap.size w (w.alloc (.cells (vals .u64 25 (fun j => (f j : Int))) 56)) := bl_alloc (bl_refl w)
  generalize w.alloc (.cells (vals .u64 25 (fun j => (f j : Int))) 56) = W2 at q3 ⊢
  refine (lbytes_w f W2 HF.out).mono ?_
  rintro e w3 ⟨v, rfl, ho3, hb⟩
  obtain ⟨gk, ck, rfl, hck, hgk, _, hcs⟩ := owns_at ho3 (by decide)
  have P3 := Lib.hid (bl_call q3 hb)
  have R1 : Hid (reads w3 (some ⟨gk, F, none⟩) N .u8 (fun j => (byteL f (F + j) : Int))) := Lib.hid (fun _ => ⟨gk, F, rfl, fun j hj => (hcs (F + j) (by omega)).1⟩)
  have hs3 := P3.out.size
  have hckF : ¬ ck = F := by omega
  have hf0 : (0 : Int) ≤ (F : Int) := by omega
  have hf1 : (F : Int) ≤ 200 := by omega
  have hf2 : (F : Int) ≤ (F : Int) + (N : Int) := by omega
  have hf3 : (F : Int) + (N : Int) ≤ (ck : Int) := by omega
  have hw1 : IntKind.i64.wrap ((F : Int) + (N : Int)) = (F : Int) + (N : Int) := by rw [IntKind.wrap_i64]; omega
  have eL : ((F : Int) + (N : Int)).toNat - F = N := by omega
  clear ho3 hb hgk hcs q3 CW
  go_wp2_with (at_builtin; refine append_many elt8w rfl (.const (.slice none 0 0)) (.tmp 21) rfl rfl (owns_nil _ w.heap.size _ .u8 (fun _ => 0)) rfl R1.out (by unfold maxLen; omega) (by omega) hs3 ?_; intro v' w4 ho4 hg4)
  have ho5 : owns w4 w.heap.size 5 .u8 v' N (fun j => (byteL f (F + j) : Int)) := by
    have h := owns_ext (g := fun j => (byteL f (F + j) : Int)) (fun j _ => by simp) ho4
    rwa [Nat.zero_add] at h
  go_ret
  exact ⟨_, rfl, ho5, P3.out.trans ((Below.refl _ _).grown hg4 hs3 (fun k e => by have h : (none : Option Nat) = some k := e; cases h))⟩
end Go.Proofs.Ytohieonpegeokaa
