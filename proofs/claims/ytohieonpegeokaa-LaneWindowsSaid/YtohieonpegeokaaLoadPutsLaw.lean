/- The walk of the law LoadPuts. -/
import Derived.Test.YtohieonpegeokaaFour
namespace Go.Proofs.Ytohieonpegeokaa
open Go.RowKit Go.Shelf

theorem putI64_app (f : Nat → Nat) (k j : Nat) (x : Nat) (hx : x = f k) (h : ¬ j < k * 8) (hj : j < (k + 1) * 8) : ((x / 256 ^ (8 - 1 - (j - k * 8)) % 256 : Nat) : Int) = putI64 f j := by
  unfold putI64
  rw [show j / 8 = k by omega, show 7 - j % 8 = 8 - 1 - (j - k * 8) by omega, hx]
theorem putL64_app (f : Nat → Nat) (k j : Nat) (x : Nat) (hx : x = f k) (h : ¬ j < k * 8) (hj : j < (k + 1) * 8) : ((x / 256 ^ (j - k * 8) % 256 : Nat) : Int) = putL64 f j := by
  unfold putL64
  rw [show j / 8 = k by omega, show j % 8 = j - k * 8 by omega, hx]
theorem putI32_app (f : Nat → Nat) (k j : Nat) (x : Nat) (hx : x = f k) (h : ¬ j < k * 4) (hj : j < (k + 1) * 4) : ((x / 256 ^ (4 - 1 - (j - k * 4)) % 256 : Nat) : Int) = putI32 f j := by
  unfold putI32
  rw [show j / 4 = k by omega, show 3 - j % 4 = 4 - 1 - (j - k * 4) by omega, hx]
def low (f : Nat → Nat) (j : Nat) : Nat := f j % 4294967296
set_option maxRecDepth 100000 in
set_option maxHeartbeats 4000000 in
theorem loadPuts_walk (a : Option Addr) (n cap : Nat) (f' : Nat → Int) (w : World) (hn : n ≤ maxLen) (hr : reads w a n .u64 f') (hf : ∀ j, j < n → 0 ≤ f' j ∧ f' j < 18446744073709551616) :
    Calls Try.prog 13 #[.slice a n cap] w fun e w' => e = .returned (.bool true) ∧ Below w.heap.size w w' := by
  unfold maxLen at hn
  have HW := Lib.hid (bl_refl w)
  by_cases hbig : 200 < n
  · clear hr hf
    go_enter Try.func13, Try.ntmps13
    go_wp2_with (go_at_call 39; refine (wakes_w _).mono ?_; rintro e w1 ⟨rfl, hb⟩)
    go_ret
    exact ⟨rfl, hb⟩
  have hsmall : n ≤ 200 := by omega
  clear hbig
  obtain ⟨f, hf2⟩ : ∃ f : Nat → Nat, Hid (f = fun j => (f' j).toNat) := ⟨_, Lib.hid rfl⟩
  have HR : Hid (reads w a n .u64 (fun j => (f j : Int))) := Lib.hid (reads_ext (fun j hj => by have := hf j hj; rw [hf2.out]; show f' j = (((f' j).toNat : Nat) : Int); omega) hr)
  have HF : Hid (∀ j, j < n → f j < 18446744073709551616) := Lib.hid (fun j hj => by have := hf j hj; rw [hf2.out]; show (f' j).toNat < 18446744073709551616; omega)
  clear hr hf hf2
  go_enter Try.func13, Try.ntmps13
  go_wp2_with (go_at_call 39; refine (wakes_w _).mono ?_; rintro e w1 ⟨rfl, hb⟩; have HWn := Lib.hid (bl_call HW.out hb); clear HW hb; have HW := HWn; clear HWn)
  go_loopw [3, 4, 5, 6, 18] (fun v3 v4 v5 v6 i wr => ∃ k : Nat, k ≤ n ∧ i = .int .i64 k ∧ Hid (Four wr w1.heap.size v3 v4 v5 v6 (k * 8) (k * 8) (k * 4) k (putI64 f) (putL64 f) (putI32 (low f)) (fun j => (low f j : Int))) ∧ Hid (Below w1.heap.size w1 wr)) (fun _ _ _ _ i _ => n - (intOf i).toNat)
  case atStart =>
    refine ⟨0, by omega, rfl, Lib.hid ?_, Lib.hid (bl_refl _)⟩
    exact ⟨owns_nil _ _ _ _ _, owns_nil _ _ _ _ _, owns_nil _ _ _ _ _, owns_nil _ _ _ _ _, .inl rfl, .inl rfl, .inl rfl, .inl rfl, .inl rfl, .inl rfl⟩
  case round =>
    obtain ⟨k, hk, rfl, HO, HB⟩ := hrel
    by_cases hlt : k < n
    · obtain ⟨b, off, rfl, hc⟩ := reads_below (Nat.le_refl _) (bl_call HW.out HB.out) HR.out (by omega)
      have hcell := hc k hlt
      have hx := HF.out k hlt
      obtain ⟨x, ex⟩ : ∃ x, Hid (x = f k) := ⟨_, Lib.hid rfl⟩
      obtain ⟨y, ey⟩ : ∃ y, Hid (y = x % 4294967296) := ⟨_, Lib.hid rfl⟩
      have hy : y < 4294967296 := by rw [ey.out]; omega
      have ey2 : (x : Int) % 4294967296 = (y : Int) := by rw [ey.out]; omega
      simp only [← ex.out] at hcell hx
      clear hc
      have C8 : Hid (∀ W, Calls Try.prog 49 #[.int .u64 x, .int .i64 8] W fun e w' => ∃ v, e = .returned v ∧ owns w' W.heap.size 5 .u8 v 8 (fun j => ((x / 256 ^ (8 - 1 - j) % 256 : Nat) : Int)) ∧ Below W.heap.size W w') := Lib.hid (fun W => big_w x hx 8 (by omega) W)
      have C4 : Hid (∀ W, Calls Try.prog 49 #[.int .u64 y, .int .i64 4] W fun e w' => ∃ v, e = .returned v ∧ owns w' W.heap.size 5 .u8 v 4 (fun j => ((y / 256 ^ (4 - 1 - j) % 256 : Nat) : Int)) ∧ Below W.heap.size W w') := Lib.hid (fun W => big_w y (by omega) 4 (by omega) W)
      have CL : Hid (∀ W, Calls Try.prog 50 #[.int .u64 x, .int .i64 8] W fun e w' => ∃ v, e = .returned v ∧ owns w' W.heap.size 5 .u8 v 8 (fun j => ((x / 256 ^ j % 256 : Nat) : Int)) ∧ Below W.heap.size W w') := Lib.hid (fun W => little_w x hx 8 (by omega) W)
      go_wp2_with (first | (go_at_call 49; (with_reducible refine (C8.out _).mono ?_); rintro e w2 ⟨v, rfl, ho, hb⟩; obtain ⟨g2, c2, rfl, _, _, _, _⟩ := owns_at ho (by omega); obtain ⟨_, _, e2, _, _, hr2⟩ := owns_reads ho; cases e2; have R8 := Lib.hid hr2; have HOn := Lib.hid (HO.out.below hb); have HBn := Lib.hid (HB.out.trans (hb.mono HB.out.size)); clear hb ho hr2; clear HO HB; have HO := HOn; have HB := HBn; clear HOn HBn) | (at_builtin; refine append_many_at elt8w rfl (.tmp 22) (.tmp 24) rfl rfl HO.out.o3 rfl R8.out (by unfold maxLen; omega) (by omega) HB.out.size ?_; intro v3' w3 ho3 hg3 hat3; have HOn := Lib.hid (HO.out.app3 ho3 hg3 hat3); have HBn := Lib.hid (HB.out.trans (own_grown HO.out.o3 hg3 HB.out.size)); clear ho3 hg3 hat3; clear HO HB; have HO := HOn; have HB := HBn; clear HOn HBn) | (go_at_call 50; (with_reducible refine (CL.out _).mono ?_); rintro e w2 ⟨v, rfl, ho, hb⟩; obtain ⟨g2, c2, rfl, _, _, _, _⟩ := owns_at ho (by omega); obtain ⟨_, _, e2, _, _, hr2⟩ := owns_reads ho; cases e2; have RL := Lib.hid hr2; have HOn := Lib.hid (HO.out.below hb); have HBn := Lib.hid (HB.out.trans (hb.mono HB.out.size)); clear hb ho hr2; clear HO HB; have HO := HOn; have HB := HBn; clear HOn HBn) | (at_builtin; refine append_many_at elt8w rfl (.tmp 26) (.tmp 28) rfl rfl HO.out.o4 rfl RL.out (by unfold maxLen; omega) (by omega) HB.out.size ?_; intro v4' w3 ho3 hg3 hat3; have HOn := Lib.hid (HO.out.app4 ho3 hg3 hat3); have HBn := Lib.hid (HB.out.trans (own_grown HO.out.o4 hg3 HB.out.size)); clear ho3 hg3 hat3; clear HO HB; have HO := HOn; have HB := HBn; clear HOn HBn) | (go_at_call 49; (with_reducible refine (C4.out _).mono ?_); rintro e w2 ⟨v, rfl, ho, hb⟩; obtain ⟨g2, c2, rfl, _, _, _, _⟩ := owns_at ho (by omega); obtain ⟨_, _, e2, _, _, hr2⟩ := owns_reads ho; cases e2; have R4 := Lib.hid hr2; have HOn := Lib.hid (HO.out.below hb); have HBn := Lib.hid (HB.out.trans (hb.mono HB.out.size)); clear hb ho hr2; clear HO HB; have HO := HOn; have HB := HBn; clear HOn HBn) | (at_builtin; refine append_many_at elt8w rfl (.tmp 30) (.tmp 33) rfl rfl HO.out.o5 rfl R4.out (by unfold maxLen; omega) (by omega) HB.out.size ?_; intro v5' w3 ho3 hg3 hat3; have HOn := Lib.hid (HO.out.app5 ho3 hg3 hat3); have HBn := Lib.hid (HB.out.trans (own_grown HO.out.o5 hg3 HB.out.size)); clear ho3 hg3 hat3; clear HO HB; have HO := HOn; have HB := HBn; clear HOn HBn) | (at_builtin; refine append_one_at elt32w rfl (.tmp 35) (.tmp 39) rfl rfl HO.out.o6 rfl rfl (by unfold maxLen; omega) (by omega) HB.out.size ?_; intro v6' w3 ho3 hg3 hat3; have HO6 := Lib.hid ((HO.out.below (bl_alloc (bl_refl _))).app6 ho3 hg3 hat3); have HB6 := Lib.hid ((HB.out.alloc HB.out.size _).trans (own_grown (HO.out.below (bl_alloc (bl_refl _))).o6 hg3 (Below.alloc HB.out HB.out.size _).size)); clear ho3 hg3 hat3))
      go_roundw
      case rel =>
        refine ⟨k + 1, by omega, by go_num, Lib.hid (HO6.out.ext (by omega) (by omega) (by omega) rfl (fun j hj => ?_) (fun j hj => ?_) (fun j hj => ?_) (fun j hj => ?_)), HB6⟩
        · by_cases h : j < k * 8
          · rw [if_pos h]
          · rw [if_neg h]
            exact putI64_app f k j x ex.out h hj
        · by_cases h : j < k * 8
          · rw [if_pos h]
          · rw [if_neg h]
            exact putL64_app f k j x ex.out h hj
        · by_cases h : j < k * 4
          · rw [if_pos h]
          · rw [if_neg h]
            exact putI32_app (low f) k j y (by rw [ey.out, ex.out]; rfl) h hj
        · by_cases h : j < k
          · rw [if_pos h]
          · obtain rfl : j = k := by omega
            rw [if_neg h, ey.out, ex.out]
            rfl
      case measure => simp [intOf]; omega
    · obtain rfl : n = k := by omega
      have h5 := HO.out
      obtain ⟨a3, c3, rfl, _, _, hr3⟩ := owns_reads h5.o3
      obtain ⟨a4, c4, rfl, _, _, hr4⟩ := owns_reads h5.o4
      obtain ⟨a5, c5, rfl, _, _, hr5⟩ := owns_reads h5.o5
      obtain ⟨a6, c6, rfl, _, _, hr6⟩ := owns_reads h5.o6
      have R3 := Lib.hid hr3
      have R4 := Lib.hid hr4
      have R5 := Lib.hid hr5
      have R6 := Lib.hid hr6
      have HWn := Lib.hid (bl_call HW.out HB.out)
      have HK := Lib.hid (bl_refl wr)
      clear h5 HO HB HW hr3 hr4 hr5 hr6
      have HW := HWn
      clear HWn
      go_wp2_with (first | (go_at_call 47; refine (putBig64_w a n cap f _ (by omega) (reads_below (Nat.le_refl _) HW.out HR.out) HF.out).mono ?_; rintro e w9 ⟨v, rfl, ho, hb⟩; obtain ⟨a9, c9, rfl, hc9, _, hr9⟩ := owns_reads ho; have R9 := Lib.hid hr9; have HWn := Lib.hid (bl_call HW.out hb); have HKn := Lib.hid (bl_call HK.out hb); clear ho hr9 hb HW HK; have HW := HWn; have HK := HKn; clear HWn HKn) | (go_at_call 46; refine (putLittle64_w a n cap f _ (by omega) (reads_below (Nat.le_refl _) HW.out HR.out) HF.out).mono ?_; rintro e w10 ⟨v, rfl, ho, hb⟩; obtain ⟨a10, c10, rfl, hc10, _, hr10⟩ := owns_reads ho; have R10 := Lib.hid hr10; have R9n := Lib.hid (reads_below (Nat.le_refl _) hb R9.out); have HWn := Lib.hid (bl_call HW.out hb); have HKn := Lib.hid (bl_call HK.out hb); clear ho hr10 hb HW HK R9; have HW := HWn; have HK := HKn; have R9 := R9n; clear HWn HKn R9n))
      have R3n := Lib.hid (reads_below (Nat.le_refl _) HK.out R3.out)
      have R4n := Lib.hid (reads_below (Nat.le_refl _) HK.out R4.out)
      have R5n := Lib.hid (reads_below (Nat.le_refl _) HK.out R5.out)
      have R6n := Lib.hid (reads_below (Nat.le_refl _) HK.out R6.out)
      clear R3 R4 R5 R6 HK
      have R5 := R5n
      have HT := Lib.hid (bl_refl w10)
      have S1 : Hid (∀ W, Below w10.heap.size w10 W → Calls Try.prog 51 #[.slice a9 (n * 8) c9, .slice a3 (n * 8) c3] W fun e w' => e = .returned (.bool true) ∧ Below W.heap.size W w') := Lib.hid (fun W h => same8_w a9 a3 (n * 8) c9 c3 _ _ (fun _ _ => rfl) W (by unfold maxLen; omega) (reads_below (Nat.le_refl _) h R9.out) (reads_below (Nat.le_refl _) h R3n.out))
      have S2 : Hid (∀ W, Below w10.heap.size w10 W → Calls Try.prog 51 #[.slice a10 (n * 8) c10, .slice a4 (n * 8) c4] W fun e w' => e = .returned (.bool true) ∧ Below W.heap.size W w') := Lib.hid (fun W h => same8_w a10 a4 (n * 8) c10 c4 _ _ (fun _ _ => rfl) W (by unfold maxLen; omega) (reads_below (Nat.le_refl _) h R10.out) (reads_below (Nat.le_refl _) h R4n.out))
      have P32 : Hid (∀ W, Below w10.heap.size w10 W → Calls Try.prog 48 #[.slice a6 n c6] W fun e w' => ∃ v, e = .returned v ∧ owns w' W.heap.size 5 .u8 v (n * 4) (putI32 (low f)) ∧ Below W.heap.size W w') := Lib.hid (fun W h => putBig32_w a6 n c6 (low f) W (by omega) (reads_below (Nat.le_refl _) h R6n.out) (fun j _ => Nat.mod_lt _ (by omega)))
      have B64 : Hid (∀ W, Below w10.heap.size w10 W → Calls Try.prog 43 #[.slice a9 (n * 8) c9] W fun e w' => ∃ v, e = .returned v ∧ owns w' W.heap.size 29 .u64 v n (fun j => (f j : Int)) ∧ Below W.heap.size W w') := Lib.hid (fun W h => by
        refine (big64_w a9 (n * 8) c9 (putI64 f) W (by omega) hc9 (reads_below (Nat.le_refl _) h R9.out) (fun j _ => putI64_bd f j)).mono ?_
        rintro e w' ⟨v, he, ho, hb⟩
        rw [show n * 8 / 8 = n by omega] at ho
        exact ⟨v, he, owns_ext (fun j hj => putI64_word f j (HF.out j hj)) ho, hb⟩)
      have L64 : Hid (∀ W, Below w10.heap.size w10 W → Calls Try.prog 44 #[.slice a10 (n * 8) c10] W fun e w' => ∃ v, e = .returned v ∧ owns w' W.heap.size 29 .u64 v n (fun j => (f j : Int)) ∧ Below W.heap.size W w') := Lib.hid (fun W h => by
        refine (little64_w a10 (n * 8) c10 (putL64 f) W (by omega) (reads_below (Nat.le_refl _) h R10.out) (fun j _ => putL64_bd f j)).mono ?_
        rintro e w' ⟨v, he, ho, hb⟩
        rw [show n * 8 / 8 = n by omega] at ho
        exact ⟨v, he, owns_ext (fun j hj => putL64_word f j (HF.out j hj)) ho, hb⟩)
      clear R3n R4n R6n R5n R9 R10
      refine Calls.mono (S1.out _ HT.out) ?_
      rintro e w11 ⟨rfl, hb⟩
      have HTn := Lib.hid (bl_call HT.out hb)
      clear HT hb
      have HT := HTn
      clear HTn
      go_wp2_with (first | (go_at_call 51; (with_reducible refine (S2.out _ HT.out).mono ?_); rintro e w11 ⟨rfl, hb⟩; have HTn := Lib.hid (bl_call HT.out hb); clear HT hb; have HT := HTn; clear HTn) | (go_at_call 48; (with_reducible refine (P32.out _ HT.out).mono ?_); rintro e w11 ⟨v, rfl, ho, hb⟩; obtain ⟨av, cv, rfl, _, _, hrv⟩ := owns_reads ho; have S3 := Lib.hid (same8_w av a5 (n * 4) cv c5 _ (putI32 (low f)) (fun _ _ => rfl) w11 (by unfold maxLen; omega) hrv (reads_below (Nat.le_refl _) (bl_call HT.out hb) R5.out)); clear ho hrv; have HTn := Lib.hid (bl_call HT.out hb); clear HT hb; have HT := HTn; clear HTn) | (go_at_call 51; (with_reducible refine S3.out.mono ?_); rintro e w12 ⟨rfl, hb⟩; have HTn := Lib.hid (bl_call HT.out hb); clear HT hb; have HT := HTn; clear HTn) | (go_at_call 43; (with_reducible refine (B64.out _ HT.out).mono ?_); rintro e w11 ⟨v, rfl, ho, hb⟩; obtain ⟨av, cv, rfl, _, _, hrv⟩ := owns_reads ho; have W1 := Lib.hid (same64_w av a n cv cap _ (fun j => (f j : Int)) (fun _ _ => rfl) w11 (by unfold maxLen; omega) hrv (reads_below (Nat.le_refl _) (bl_call HW.out (bl_call HT.out hb)) HR.out)); clear ho hrv; have HTn := Lib.hid (bl_call HT.out hb); clear HT hb; have HT := HTn; clear HTn) | (go_at_call 41; (with_reducible refine W1.out.mono ?_); rintro e w12 ⟨rfl, hb⟩; have HTn := Lib.hid (bl_call HT.out hb); clear HT hb; have HT := HTn; clear HTn) | (go_at_call 44; (with_reducible refine (L64.out _ HT.out).mono ?_); rintro e w11 ⟨v, rfl, ho, hb⟩; obtain ⟨av, cv, rfl, _, _, hrv⟩ := owns_reads ho; have W2 := Lib.hid (same64_w av a n cv cap _ (fun j => (f j : Int)) (fun _ _ => rfl) w11 (by unfold maxLen; omega) hrv (reads_below (Nat.le_refl _) (bl_call HW.out (bl_call HT.out hb)) HR.out)); clear ho hrv; have HTn := Lib.hid (bl_call HT.out hb); clear HT hb; have HT := HTn; clear HTn) | (go_at_call 41; (with_reducible refine W2.out.mono ?_); rintro e w12 ⟨rfl, hb⟩; have HTn := Lib.hid (bl_call HT.out hb); clear HT hb; have HT := HTn; clear HTn))
      go_ret
      exact ⟨rfl, bl_call HW.out HT.out⟩
end Go.Proofs.Ytohieonpegeokaa
