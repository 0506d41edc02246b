/- The example of layer 2 holds. -/
import Derived.Test.YtohieonpegeokaaDoorLong
namespace Go.Proofs.YtohieonpegeokaaDoor
open Go.RowKit Bt

theorem wakes64_w (w : World) : Calls Tryd.prog 20 #[] w fun e w' => e = .returned (.bool true) ∧ w = w' := by
  have e1 : Bt.rotr 64 1 ((1 : Int) % 64).toNat = 9223372036854775808 := by decide +kernel
  have e2 : ((255 &&& 240) ||| (0 &&& (255 ||| 240)) : Nat) = 240 := by decide +kernel
  have c1 := turn64_w 1 (by omega) 1 w
  rw [e1] at c1
  have c2 := maj64_w 255 240 0 (by omega) (by omega) (by omega) w
  rw [e2] at c2
  clear e1 e2
  go_enter Tryd.func20, Tryd.ntmps20
  go_wp2_with (first | (go_at_call 45; refine c1.mono ?_; rintro e w' ⟨rfl, rfl⟩) | (go_at_call 46; refine c2.mono ?_; rintro e w' ⟨rfl, rfl⟩))
  go_ret
  exact ⟨rfl, rfl⟩

end Go.Proofs.YtohieonpegeokaaDoor
