/- wide.Blocks: blocks of SHA-256. -/
import Derived.Test.YtfnncplokombgaaDoorSchedWord
import Derived.Test.YtfnncplokombgaaDoorRefRoundWord
import Derived.WalkMore
namespace Go.Proofs.YtfnncplokombgaaDoor
open Go.RowKit Go.Shelf Go.Sort Bt
attribute [local go_sem] vals_set vals_get? vals_get vals_size rowAt_at rowAt_past hasRow_at hasRow_past run_loadRow run_storeCells_row setRow_at setRow_past rowAt_drewN hasRow_drewN setRow_drewN alloc_drewN setCell_drewN lt_s2 lt_s3 lt_s4 lt_s5 lt_s6
attribute [local go_sem ↓] loadRow_is

/-- the table of SHA-256: the upper halves -/
def k32c (t : Nat) : Nat := k64c t / 4294967296
/-- t rounds -/
def rounds32 (v k u : Nat → Nat) : Nat → Nat → Nat
  | 0 => v
  | t + 1 => round32 (rounds32 v k u t) (k t) (u t)
theorem round32_lt (v : Nat → Nat) (hv : ∀ j, j < 8 → v j < 4294967296) (k u : Nat) : ∀ j, j < 8 → round32 v k u j < 4294967296 := by
  intro j hj
  have hcase : j = 0 ∨ j = 1 ∨ j = 2 ∨ j = 3 ∨ j = 4 ∨ j = 5 ∨ j = 6 ∨ j = 7 := by omega
  rcases hcase with rfl | rfl | rfl | rfl | rfl | rfl | rfl | rfl
  all_goals first | exact Nat.mod_lt _ (by decide) | exact hv _ (by decide)
theorem rounds32_lt (v k u : Nat → Nat) (hv : ∀ j, j < 8 → v j < 4294967296) : ∀ t j, j < 8 → rounds32 v k u t j < 4294967296
  | 0 => hv
  | t + 1 => round32_lt _ (rounds32_lt v k u hv t) _ _
/-- a value and a block's words -/
def block32 (v m : Nat → Nat) (j : Nat) : Nat := (v j + rounds32 v k32c (sched32 m) 64 j) % 4294967296
theorem block32_lt (v m : Nat → Nat) (j : Nat) : block32 v m j < 4294967296 := Nat.mod_lt _ (by decide)
/-- n blocks of the bytes f -/
def blocks32 (v : Nat → Nat) (f : Nat → Int) : Nat → Nat → Nat
  | 0 => v
  | n + 1 => block32 (blocks32 v f n) (word32 (fun j => f (n * 64 + j)))
theorem blocks32_lt (v : Nat → Nat) (f : Nat → Int) (hv : ∀ j, j < 8 → v j < 4294967296) : ∀ n j, j < 8 → blocks32 v f n j < 4294967296
  | 0 => hv
  | _ + 1 => fun j _ => block32_lt _ _ j
theorem word32_congr {f g : Nat → Int} (h : ∀ j, j < 64 → f j = g j) (j : Nat) (hj : j < 16) : word32 f j = word32 g j := by
  unfold word32
  rw [beN_congr 4 fun i hi => h _ (by omega)]
theorem rounds32_congr {v k u u' : Nat → Nat} (h : ∀ t, u t = u' t) : ∀ n, rounds32 v k u n = rounds32 v k u' n
  | 0 => rfl
  | n + 1 => by rw [rounds32, rounds32, rounds32_congr h n, h n]
theorem block32_congr {v m m' : Nat → Nat} (h : ∀ j, j < 16 → m j = m' j) : block32 v m = block32 v m' := by
  funext j
  unfold block32
  rw [rounds32_congr (sched32_congr h) 64]
theorem blocks32_congr {v : Nat → Nat} {f g : Nat → Int} : ∀ n, (∀ j, j < n * 64 → f j = g j) → blocks32 v f n = blocks32 v g n
  | 0, _ => rfl
  | n + 1, h => by
    rw [blocks32, blocks32, blocks32_congr n fun j hj => h j (by omega)]
    exact block32_congr fun j hj => word32_congr (fun i hi => h _ (by omega)) j hj
theorem blocks32_add (v : Nat → Nat) (f : Nat → Int) (n : Nat) : ∀ m, blocks32 v f (n + m) = blocks32 (blocks32 v f n) (fun j => f (n * 64 + j)) m
  | 0 => rfl
  | m + 1 => by
    rw [← Nat.add_assoc, blocks32, blocks32, blocks32_add v f n m]
    refine block32_congr fun j hj => word32_congr (fun i _ => ?_) j hj
    congr 1
    rw [Nat.add_mul, Nat.add_assoc]
theorem row_grown {w w1 : World} {g g' n : Nat} {c : Array Value} (hg : w.grownBy w1 (some g)) (hne : g' ≠ g) (h : hasRow w g' n ∧ rowAt w g' = c) : hasRow w1 g' n ∧ rowAt w1 g' = c := by
  refine ⟨hasRow_grown hg hne h.1, ?_⟩
  rw [← h.2]
  unfold rowAt
  rw [hg.block g' (lt_of_hasRow h.1) (fun e => hne (by cases e; rfl))]
theorem zv8 (W : World) : (zeroValue 31).run Tryd.prog W = .ok (.agg (vals .u32 8 (fun _ => 0))) W := by kernel_rfl
end Go.Proofs.YtfnncplokombgaaDoor
