/- The example of layer 1 holds. -/
import Derived.Test.YtohieonpegeokaaDoorWord
namespace Go.Proofs.YtohieonpegeokaaDoor
open Go.RowKit Bt

theorem wakes32_w (w : World) : Calls Tryd.prog 15 #[] w fun e w' => e = .returned (.bool true) ∧ w = w' := by
  have e1 : Bt.rotr 32 1 ((1 : Int) % 32).toNat = 2147483648 := by decide +kernel
  have e2 : (2596069104 ^^^ (4278255360 &&& (305419896 ^^^ 2596069104)) : Nat) = 314332912 := by decide +kernel
  have c1 := turn32_w 1 (by omega) 1 w
  rw [e1] at c1
  have c2 := ch32_w 4278255360 305419896 2596069104 (by omega) (by omega) (by omega) w
  rw [e2] at c2
  clear e1 e2
  go_enter Tryd.func15, Tryd.ntmps15
  go_wp2_with (first | (go_at_call 39; refine c1.mono ?_; rintro e w' ⟨rfl, rfl⟩) | (go_at_call 40; refine c2.mono ?_; rintro e w' ⟨rfl, rfl⟩))
  go_ret
  exact ⟨rfl, rfl⟩

end Go.Proofs.YtohieonpegeokaaDoor
