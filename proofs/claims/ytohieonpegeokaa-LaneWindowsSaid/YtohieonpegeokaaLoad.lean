/- Layer 3 (load): its outer functions; the examples hold. -/
import Derived.Test.YtohieonpegeokaaWordsA
import Derived.Test.YtohieonpegeokaaWordsB
import Derived.Test.YtohieonpegeokaaPutA
import Derived.Test.YtohieonpegeokaaPutB
import Derived.Test.YtohieonpegeokaaTurned
import Derived.Test.YtohieonpegeokaaRefLoad
namespace Go.Proofs.Ytohieonpegeokaa
open Go.RowKit Go.Shelf

theorem big32_w (a : Option Addr) (len cap : Nat) (f : Nat → Int) (w : World) (hlen : len ≤ 1000000) (hcap : len ≤ cap) (hr : reads w a len .u8 f) (hf : ∀ j, j < len → 0 ≤ f j ∧ f j < 256) :
    Calls Try.prog 40 #[.slice a len cap] w fun e w' => ∃ v, e = .returned v ∧ owns w' w.heap.size 22 .u32 v (len / 4) (fun j => beN f (j * 4) 4) ∧ RowKit.Below w.heap.size w w' := by
  have HC := Lib.hid (words32_w a len cap 4 rfl f w hlen hcap hr hf)
  clear hr hf
  go_enter Try.func40, Try.ntmps40
  go_wp2_with (go_at_call 68; refine HC.out.mono ?_; rintro e w1 ⟨v, rfl, ho, hb⟩)
  go_ret
  exact ⟨_, rfl, ho, hb⟩
theorem big64_w (a : Option Addr) (len cap : Nat) (f : Nat → Int) (w : World) (hlen : len ≤ 1000000) (hcap : len ≤ cap) (hr : reads w a len .u8 f) (hf : ∀ j, j < len → 0 ≤ f j ∧ f j < 256) :
    Calls Try.prog 43 #[.slice a len cap] w fun e w' => ∃ v, e = .returned v ∧ owns w' w.heap.size 29 .u64 v (len / 8) (fun j => beN f (j * 8) 8) ∧ RowKit.Below w.heap.size w w' := by
  have HC := Lib.hid (words64_w a len cap 8 rfl f w hlen hcap hr hf)
  clear hr hf
  go_enter Try.func43, Try.ntmps43
  go_wp2_with (go_at_call 69; refine HC.out.mono ?_; rintro e w1 ⟨v, rfl, ho, hb⟩)
  go_ret
  exact ⟨_, rfl, ho, hb⟩
theorem turnI_bd {f : Nat → Int} {sz len : Nat} (h : 1 ≤ sz) (hf : ∀ j, j < len → 0 ≤ f j ∧ f j < 256) : ∀ j, j < len → 0 ≤ turnI f sz len j ∧ turnI f sz len j < 256 := by
  intro j hj
  unfold turnI
  split
  · rename_i h1
    rw [Nat.succ_mul] at h1
    have := Nat.mod_lt j (show 0 < sz by omega)
    exact hf _ (by omega)
  · exact hf j hj
/-- turned and read from the great end: read from the little end -/
theorem turnI_beN {f : Nat → Int} {len : Nat} {j : Nat} (hj : j < len / 8) : beN (turnI f 8 len) (j * 8) 8 = leN f (j * 8) 8 := by
  unfold leN
  refine beN_congr 8 fun i hi => ?_
  unfold turnI
  rw [if_pos (by omega)]
  congr 1
  omega
theorem little64_w (a : Option Addr) (len cap : Nat) (f : Nat → Int) (w : World) (hlen : len ≤ 1000000) (hr : reads w a len .u8 f) (hf : ∀ j, j < len → 0 ≤ f j ∧ f j < 256) :
    Calls Try.prog 44 #[.slice a len cap] w fun e w' => ∃ v, e = .returned v ∧ owns w' w.heap.size 29 .u64 v (len / 8) (fun j => leN f (j * 8) 8) ∧ RowKit.Below w.heap.size w w' := by
  have HC := Lib.hid (turned_w a len cap 8 (by omega) (by omega) f w hlen hr)
  have HF := Lib.hid (turnI_bd (sz := 8) (by omega) hf)
  clear hr hf
  go_enter Try.func44, Try.ntmps44
  go_wp2_with (first | (go_at_call 70; refine HC.out.mono ?_; rintro e w1 ⟨v, rfl, ho, hb⟩; obtain ⟨a1, c1, rfl, hc1, _, hr1⟩ := owns_reads ho; have HR1 := Lib.hid hr1; clear hr1) | (go_at_call 69; refine (words64_w a1 len c1 8 rfl (turnI f 8 len) w1 hlen hc1 HR1.out HF.out).mono ?_; rintro e w2 ⟨v, rfl, ho2, hb2⟩))
  go_ret
  exact ⟨_, rfl, owns_base hb.size (owns_ext (fun j hj => turnI_beN hj) ho2), hb.trans (hb2.mono hb.size)⟩

theorem putBig32_w (a : Option Addr) (n cap : Nat) (f : Nat → Nat) (w : World) (hn : n ≤ 100000) (hr : reads w a n .u32 (fun j => (f j : Int))) (hf : ∀ j, j < n → f j < 4294967296) :
    Calls Try.prog 48 #[.slice a n cap] w fun e w' => ∃ v, e = .returned v ∧ owns w' w.heap.size 5 .u8 v (n * 4) (putI32 f) ∧ RowKit.Below w.heap.size w w' := by
  have HC := Lib.hid (put32_w a n cap f w hn hr hf)
  clear hr hf
  go_enter Try.func48, Try.ntmps48
  go_wp2_with (go_at_call 72; refine HC.out.mono ?_; rintro e w1 ⟨v, rfl, ho, hb⟩)
  go_ret
  exact ⟨_, rfl, ho, hb⟩
theorem putBig64_w (a : Option Addr) (n cap : Nat) (f : Nat → Nat) (w : World) (hn : n ≤ 100000) (hr : reads w a n .u64 (fun j => (f j : Int))) (hf : ∀ j, j < n → f j < 18446744073709551616) :
    Calls Try.prog 47 #[.slice a n cap] w fun e w' => ∃ v, e = .returned v ∧ owns w' w.heap.size 5 .u8 v (n * 8) (putI64 f) ∧ RowKit.Below w.heap.size w w' := by
  have HC := Lib.hid (put64_w a n cap f w hn hr hf)
  clear hr hf
  go_enter Try.func47, Try.ntmps47
  go_wp2_with (go_at_call 71; refine HC.out.mono ?_; rintro e w1 ⟨v, rfl, ho, hb⟩)
  go_ret
  exact ⟨_, rfl, ho, hb⟩
/-- byte j of the words f, eight bytes each, the little end first -/
def putL64 (f : Nat → Nat) (j : Nat) : Int := ((f (j / 8) / 256 ^ (j % 8) % 256 : Nat) : Int)
theorem turnI_put (f : Nat → Nat) (n j : Nat) (hj : j < n * 8) : turnI (putI64 f) 8 (n * 8) j = putL64 f j := by
  unfold turnI
  rw [if_pos (by omega)]
  unfold putI64 putL64
  rw [show (j / 8 * 8 + (8 - 1 - j % 8)) / 8 = j / 8 by omega, show 7 - (j / 8 * 8 + (8 - 1 - j % 8)) % 8 = j % 8 by omega]
theorem putLittle64_w (a : Option Addr) (n cap : Nat) (f : Nat → Nat) (w : World) (hn : n ≤ 100000) (hr : reads w a n .u64 (fun j => (f j : Int))) (hf : ∀ j, j < n → f j < 18446744073709551616) :
    Calls Try.prog 46 #[.slice a n cap] w fun e w' => ∃ v, e = .returned v ∧ owns w' w.heap.size 5 .u8 v (n * 8) (putL64 f) ∧ RowKit.Below w.heap.size w w' := by
  have HC := Lib.hid (put64_w a n cap f w hn hr hf)
  clear hr hf
  go_enter Try.func46, Try.ntmps46
  go_wp2_with (first | (go_at_call 71; refine HC.out.mono ?_; rintro e w1 ⟨v, rfl, ho, hb⟩; obtain ⟨a1, c1, rfl, hc1, _, hr1⟩ := owns_reads ho; have HR1 := Lib.hid hr1; clear hr1) | (go_at_call 70; refine (turned_w a1 (n * 8) c1 8 (by omega) (by omega) (putI64 f) w1 (by omega) HR1.out).mono ?_; rintro e w2 ⟨v, rfl, ho2, hb2⟩))
  go_ret
  exact ⟨_, rfl, owns_base hb.size (owns_ext (fun j hj => turnI_put f n j hj) ho2), hb.trans (hb2.mono hb.size)⟩

theorem reads_new (w : World) {cs : Array Value} (e : TypeId) {n : Nat} {k : IntKind} (f : Nat → Int) (h : cs = vals k n f) : reads (w.alloc (.cells cs e)) (some ⟨w.heap.size, 0, none⟩) n k f := by
  subst h
  intro _
  refine ⟨_, _, rfl, fun j hj => ?_⟩
  rw [World.cell?_alloc_new, Nat.zero_add, vals_get? _ _ _ _ hj]
theorem vals_12345 : (#[.int .u8 1, .int .u8 2, .int .u8 3, .int .u8 4, .int .u8 5] : Array Value) = vals .u8 5 (fun j => (j : Int) + 1) := rfl
theorem vals_10000000 : (#[.int .u8 1, .int .u8 0, .int .u8 0, .int .u8 0, .int .u8 0, .int .u8 0, .int .u8 0, .int .u8 0] : Array Value) = vals .u8 8 (fun j => if j = 0 then 1 else 0) := rfl
theorem vals_1 : (#[.int .u64 1] : Array Value) = vals .u64 1 (fun _ => ((1 : Nat) : Int)) := rfl
theorem putL64_1 : ∀ j, j < 8 → putL64 (fun _ => 1) j = if j = 0 then 1 else 0 := by decide
set_option maxRecDepth 100000 in
theorem wakes_w (w : World) : Calls Try.prog 39 #[] w fun e w' => e = .returned (.bool true) ∧ RowKit.Below w.heap.size w w' := by
  have HW := bl_refl w
  go_enter Try.func39, Try.ntmps39
  go_wp2_with (first | (go_at_call 40; refine (big32_w _ 5 5 (fun j => (j : Int) + 1) _ (by omega) (by omega) (reads_new _ _ _ vals_12345) (fun j hj => by omega)).mono ?_; rintro e w1 ⟨v, rfl, ho, hb⟩; replace ho : owns w1 _ _ _ v 1 _ := ho; obtain ⟨g1, c1, rfl, hc1, _, _, hcl⟩ := owns_at ho (by decide); have hcell := (hcl 0 (by decide)).1; rw [show beN (fun j => (j : Int) + 1) (0 * 4) 4 = 16909060 from rfl] at hcell; have hbn := bl_call (bl_alloc HW) hb; clear HW hb hcl ho; have HW := hbn; clear hbn) | (go_at_call 46; refine (putLittle64_w _ 1 1 (fun _ => 1) _ (by omega) (reads_new _ _ _ vals_1) (fun j hj => by omega)).mono ?_; rintro e w2 ⟨v2, rfl, ho2, hb2⟩; replace ho2 : owns w2 _ _ _ v2 8 _ := ho2; obtain ⟨a2, c2, rfl, hc2, _, hr2⟩ := owns_reads ho2; have HR2 := Lib.hid hr2; have hbn := bl_call (bl_alloc HW) hb2; clear HW hb2 hr2 ho2; have HW := hbn; clear hbn) | (go_at_call 51; refine (same8_w a2 _ 8 c2 8 _ _ putL64_1 _ (by unfold maxLen; omega) (reads_alloc _ HR2.out) (reads_new _ _ _ vals_10000000)).mono ?_; rintro e w3 ⟨rfl, hb3⟩; have hbn := bl_call (bl_alloc HW) hb3; clear HW hb3; have HW := hbn; clear hbn))
  go_ret
  exact ⟨rfl, HW⟩
end Go.Proofs.Ytohieonpegeokaa
