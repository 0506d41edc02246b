/- LaneWindows: the row: for every input the law returns true, and each argument reads afterwards as it read before. No condition. -/
import Derived.Test.YtohieonpegeokaaRows
import Derived.Test.YtohieonpegeokaaLaneWindowsLaw
import Derived.Test.YtohieonpegeokaaRowKit
import Derived.Test.YtohieonpegeokaaRowArr
import Derived.WalkKit
import Derived.ProofKit
import Derived.OpenShut
namespace Go.Proofs.Ytohieonpegeokaa.laneWindows
open Go.ChangeShapes Go.WideShapes Go.ChangeAt Go.RowKit

theorem own : ownKnob Try.prog.godebug = none := by kernel_rfl
theorem laidOut : laidOutB Try.prog = true := by kernel_rfl

set_option maxRecDepth 100000 in
theorem lifted (os : Os) (started : os.Started) (H : Type) (enc : TypeId × Value → H) :
    ReturnsInHanded {} Try.checked os 18 .any (Rows.laneWindowsSpec.pre6 enc Try.prog Try.f18 Rows.laneWindowsRow.domain false) (Rows.laneWindowsSpec.post enc Try.prog Try.f18 false true false false) := by
  refine returnsInHanded_of_change_sized (C := Try.checked) own started (by kernel_rfl) Try.func18
    (ChangeSpec.witness6 (enc := enc) (C := Try.checked) false ⟨#[], #[.int .u8 0, .slice none 0 0], []⟩ 8 (by kernel_rfl) (by kernel_rfl) (by kernel_rfl) (by kernel_rfl)) ?_
  intro W base args ds gs before hval0 hW _ hsz _
  have hval : ∀ (j : Nat) t v, Try.f18.params[j]? = some t → args[j]? = some v → Value.okWide Try.prog W .any base t v := hval0
  have hW' := hW
  obtain ⟨p, q, hA0, hV, rfl, hfz, hnd⟩ := hW
  have hA : DataW.TrodAll enc Try.prog W 0 (fun _ => true) true Try.f18.params.toList args.toList ds p := hA0
  rw [Try.params18] at hA hval
  obtain ⟨v0, vs0, d0, ds0, p0, q0, hargs, rfl, rfl, h0, r0⟩ := trodAll_cons hA
  obtain ⟨v1, vs1, d1, ds1, p1, q1, rfl, rfl, rfl, h1, r1⟩ := trodAll_cons r0
  obtain ⟨rfl, rfl, rfl⟩ := trodAll_nil r1
  obtain rfl : args = #[v0, v1] := by cases args; simp_all
  obtain ⟨rfl, rfl⟩ := trodVars_none hV
  obtain ⟨a0, rfl, rfl, rfl, w0⟩ := open_int Try.underlying5 (hval 0 5 v0 rfl rfl) h0
  obtain ⟨a1, len1, cap1, rfl⟩ := okWide_slice Try.underlying41 (hval 1 41 v1 rfl rfl)
  have lt1 : ∀ x ∈ p1, x.block < W.heap.size := by obtain ⟨m, hm⟩ := h1; exact DataW.trod_lt m _ _ _ hm
  obtain ⟨f1, hr1, _, hc1, _, hf1⟩ := open_reads Try.underlying41 Try.underlying5 (by kernel_rfl) h1
  have hl1 : len1 ≤ 140737488355328 := by
    rcases reads_len (k := .u8) Try.underlying41 Try.underlying5 (by kernel_rfl) h1 with h | ⟨elems, rest, e1, e2⟩
    · omega
    · subst e1
      have h2 := sized_slice hsz (j := 1) (t := 41) (e := 5) rfl rfl Try.underlying41
      have h3 : Try.checked.prog.bytesOf 5 = 1 := by kernel_rfl
      rw [h3] at h2
      have h4 := reachBytes_lt
      omega
  clear hA0 hval0
  simp only [List.append_nil] at hW'
  refine (laneWindows_walk a0 a1 len1 cap1 f1 W w0 hl1 hr1 (fun j hj => bd_u8 (hf1 j hj)) hc1).mono fun e W' ⟨he, bel⟩ => ?_
  subst he
  exact ⟨_, rfl, _, _, _, [], _, [], hW', trodAll_mk1 (shut_bool Try.underlying4 _), (trodAll_cons_mk (shut_int Try.underlying5 w0) (trodAll_cons_mk (Below.trod laidOut (by kernel_rfl) (of_decide_eq_true (by kernel_rfl)) h1 bel lt1) trodAll_mk0)), rfl, bel.frame _, fun h => by cases h⟩

theorem over : Rows.laneWindowsRow.holds Try.pinned (OpenSpec.ofChange Rows.laneWindowsSpec) :=
  OpenClaim.holds_of_wide 18 Try.f18 rfl rfl rfl rfl rfl rfl rfl ⟨rfl, rfl, rfl, rfl, rfl⟩ rfl rfl rfl rfl rfl (by kernel_rfl) Try.func18 (by kernel_rfl)
    (of_decide_eq_true (by kernel_rfl)) (by unfold Func.isWrapper; first | (rw [if_pos (by decide +kernel)]; kernel_rfl) | (rw [if_neg (by decide +kernel)]; exact ⟨rfl, rfl⟩))
    (fun os started H enc _ => lifted os started H enc)
end Go.Proofs.Ytohieonpegeokaa.laneWindows
namespace Go.Proofs.Ytohieonpegeokaa
theorem laneWindows_holds : Rows.LaneWindowsSaid := laneWindows.over
#print axioms laneWindows_holds
end Go.Proofs.Ytohieonpegeokaa
