/- TopShake: the row (for every input the law returns true, and each argument reads afterwards as it read before; the sixteen listed variables read as the program's text lays them) and its tied card. -/
import Derived.Test.YtdobjciaikofdaaGreatDoorCards
import Derived.Test.YtdobjciaikofdaaGreatDoorTie
import Derived.Test.YtdobjciaikofdaaGreatDoorTopShakeAll38
import Derived.WalkKit
import Derived.ProofKit
import Derived.OpenShut
import Derived.Lay
namespace Go.Proofs.YtdobjciaikofdaaGreatDoor.topShake
open Go.ChangeShapes Go.WideShapes Go.ChangeAt Go.RowKit
theorem own : ownKnob Tryz.prog.godebug = none := by kernel_rfl
theorem laidOut : laidOutB Tryz.prog = true := by kernel_rfl
set_option maxRecDepth 100000
theorem contract (H : Type) (enc : TypeId × Value -> H) (W : World) (base : Nat) (args : Array Value) (ds gs : List (DataW H)) (before : List MemPlace)
  (hval0 : ∀ (j : Nat) t v, Tryz.f5.params[j]? = some t -> args[j]? = some v -> Value.okWide Tryz.prog W .any base t v)
  (hW : DataW.Whole enc Tryz.prog Tryz.f5.params.toList Rows.topShakeSpec.vars false W args.toList ds gs before) (hL : laidMetH Tryz.prog Rows.topShakeRow.laid W) (hS : W.ShapedOpen Tryz.prog)
  (hZ : (DataW.weightsEach Tryz.prog (Tryz.f5.params.toList ++ (OpenSpec.ofChange Rows.topShakeSpec).bare.plain.varTypes Tryz.prog) (ds ++ gs)).all (· <= reachBytes) = true) :
  RunsOn Tryz.prog (fun v W' => Rows.topShakeSpec.post enc Tryz.prog Tryz.f5 false true false false W args v W') (Go.Conc.G (Frame.enter Tryz.prog 5 args .normal) []) W := by
 have hval : ∀ (j : Nat) t v, Tryz.f5.params[j]? = some t -> args[j]? = some v -> Value.okWide Tryz.prog W .any base t v := hval0
 have hW' := hW
 obtain ⟨p, q, hA0, hV, rfl, hfz, hnd⟩ := hW
 have hA : DataW.TrodAll enc Tryz.prog W 0 (fun _ => true) true Tryz.f5.params.toList args.toList ds p := hA0
 rw [Tryz.params5] at hA hval hZ
 obtain ⟨v0, vs0, d0, ds0, p0, q0, hargs, rfl, rfl, h0, r0⟩ := trodAll_cons hA
 obtain ⟨v1, vs1, d1, ds1, p1, q1, rfl, rfl, rfl, h1, r1⟩ := trodAll_cons r0
 obtain ⟨v2, vs2, d2, ds2, p2, q2, rfl, rfl, rfl, h2, r2⟩ := trodAll_cons r1
 obtain ⟨rfl, rfl, rfl⟩ := trodAll_nil r2
 obtain rfl : args = #[v0, v1, v2] := by cases args; simp_all
 obtain ⟨rfl, rfl⟩ := trodVars_none hV
 obtain ⟨b0, rfl, rfl, rfl⟩ := open_bool Tryz.underlying4 (hval 0 4 v0 rfl rfl) h0
 obtain ⟨a1, len1, cap1, rfl⟩ := okWide_slice Tryz.underlying51 (hval 1 51 v1 rfl rfl)
 have lt1 : ∀ x ∈ p1, x.block < W.heap.size := by obtain ⟨m, hm⟩ := h1; exact DataW.trod_lt m _ _ _ hm
 obtain ⟨A, L, C, F, hP, hB⟩ := open_pcs Tryz.underlying51 Tryz.underlying22 Tryz.underlying5 (by kernel_rfl) (by kernel_rfl) (by decide +kernel) (by decide +kernel) h1
 obtain ⟨z2, rfl, rfl, rfl, w2⟩ := open_int Tryz.underlying5 (hval 2 5 v2 rfl rfl) h2
 obtain ⟨n2, rfl, hn2⟩ : ∃ n : Nat, z2 = n /\ n < 256 := by have := bd_u8 w2; exact ⟨z2.toNat, by omega, by omega⟩
 have hB2 := hB fun n hn => by simpa using List.all_eq_true.1 hZ n (DataW.weights_mem_each (j := 1) (t := 51) (d := d1) rfl rfl n hn)
 clear hA0 hval0
 simp only [List.append_nil] at hW'
 have hco := topShake_run (long := b0) (c := cap1) (ground_of hS hL) hP hB2.1 hB2.2 hn2
 refine hco.mono fun v W' ⟨he, hk⟩ => ?_
 subst he
 have bel := hk.bel
 exact ⟨_, _, _, [], _, [], hW', trodAll_mk1 (shut_bool Tryz.underlying4 _), (trodAll_cons_mk (shut_bool Tryz.underlying4 _) (trodAll_cons_mk (Below.trod laidOut (by kernel_rfl) (of_decide_eq_true (by kernel_rfl)) h1 bel lt1) (trodAll_cons_mk (shut_int Tryz.underlying5 w2) trodAll_mk0))), rfl, bel.frame _, fun h => by cases h⟩
theorem laid_met (os : Os) : laidMet Tryz.prog Rows.topShakeRow.laid ((World.laidAll Tryz.prog os Rows.topShakeRow.laid).forCall (fun _ _ => 0) ⟨#[], #[.bool false, .slice none 0 0, .int .u8 0], []⟩).memory :=
 laidMet_laidAll _ (by kernel_rfl) (by kernel_rfl)
theorem reads (os : Os) {H : Type} (enc : TypeId × Value -> H) : ∃ places, DataW.whole enc Tryz.prog ((World.laidAll Tryz.prog os Rows.topShakeRow.laid).forCall (fun _ _ => 0) ⟨#[], #[.bool false, .slice none 0 0, .int .u8 0], []⟩).memory Tryz.f5.params.toList Rows.topShakeSpec.vars false (#[.bool false, .slice none 0 0, .int .u8 0] : Array Value).toList 12 = some ([.lit (.bool false), .nil, .lit (.int .u8 0)], [], places) :=
 ⟨[], by kernel_rfl⟩
theorem shaped (os : Os) : ((World.laidAll Tryz.prog os Rows.topShakeRow.laid).forCall (fun _ _ => 0) ⟨#[], #[.bool false, .slice none 0 0, .int .u8 0], []⟩).Shaped Tryz.prog :=
 World.shaped_of_ZipB (by kernel_rfl) (by kernel_rfl)
theorem okw (os : Os) : Input.okWide Tryz.prog ((World.laidAll Tryz.prog os Rows.topShakeRow.laid).forCall (fun _ _ => 0) ⟨#[], #[.bool false, .slice none 0 0, .int .u8 0], []⟩) .any (World.laidAll Tryz.prog os Rows.topShakeRow.laid).heap.size 5 ⟨#[], #[.bool false, .slice none 0 0, .int .u8 0], []⟩ :=
 (Input.okWide_of_okWideB (by kernel_rfl)).2
set_option maxRecDepth 100000 in
theorem lifted (os : Os) (started : os.Started) (H : Type) (enc : TypeId × Value -> H) (F : Stop.Interp) :
  ReturnsInLeavingWide {} Tryz.checked os 5 .any ((OpenSpec.ofChange Rows.topShakeSpec).preRow enc Tryz.prog Tryz.f5 Rows.topShakeRow.domain false Rows.topShakeRow.laid) (((OpenSpec.ofChange Rows.topShakeSpec).at F).post enc Tryz.prog Tryz.f5 false true false false) := by
 obtain ⟨places, hx⟩ := reads os enc
 refine returnsInLeavingWide_of_run (C := Tryz.checked) (s := OpenSpec.ofChange Rows.topShakeSpec) (F := F) own started Tryz.func5
  ⟨World.laidAll Tryz.prog os Rows.topShakeRow.laid, fun _ _ => 0, ⟨#[], #[.bool false, .slice none 0 0, .int .u8 0], []⟩, World.laidAll_os _ _ _, shaped os, rfl, okw os, OpenSpec.preRow_of_cond 12 hx (by kernel_rfl) (fun k hk => by cases hk) (by kernel_rfl) (laid_met os), by simp [Assume.holds]⟩ ?_
 intro W base args ds gs before hval hW hL hS hZ
 exact contract H enc W base args ds gs before hval hW hL hS hZ
theorem said : Rows.TopShakeSaid :=
 OpenClaim.holds_of_wide_leaving 5 Tryz.f5 rfl rfl rfl rfl rfl rfl rfl ⟨rfl, rfl, rfl, rfl, rfl⟩ rfl rfl rfl rfl rfl (by kernel_rfl) Tryz.func5 closed
  (of_decide_eq_true (by kernel_rfl)) (by unfold Func.isWrapper; first | (rw [if_pos (by decide +kernel)]; kernel_rfl) | (rw [if_neg (by decide +kernel)]; exact ⟨rfl, rfl⟩))
  (fun os started H enc _ => by rw [OpenClaim.pre_eq_preRow]; exact lifted os started H enc (fun _ _ _ => 0))
set_option maxRecDepth 100000 in
theorem plain (f : FuncId) (fn : Func) (hf : Tryz.pinned.checked.prog.funcNamed "cribble/cribbletop.TopShake" = some f) (hfn : Tryz.pinned.checked.prog.funcs[f]? = some fn) :
  true = Tryz.pinned.checked.prog.looks [] /\ ∀ (j : Nat) t, fn.params[j]? = some t -> Tryz.pinned.checked.prog.wantsStandIn t = false := by
 obtain rfl : f = 5 := Option.some.inj ((show Tryz.prog.funcNamed "cribble/cribbletop.TopShake" = some 5 by kernel_rfl).symm.trans hf) |>.symm
 obtain rfl : fn = Tryz.f5 := (Option.some.inj (Tryz.func5.symm.trans hfn)).symm
 refine ⟨by kernel_rfl, fun j t ht => ?_⟩
 rw [Tryz.params5] at ht
 have hm := Array.mem_of_getElem? ht
 simp at hm
 rcases hm with rfl | rfl | rfl
 all_goals first | exact (show Tryz.prog.wantsStandIn 4 = false by kernel_rfl) | exact (show Tryz.prog.wantsStandIn 51 = false by kernel_rfl) | exact (show Tryz.prog.wantsStandIn 5 = false by kernel_rfl)
theorem card : Rows.TopShakeCardSaid :=
 tied_goes .later true _ _ _ said (by kernel_rfl) topShake_row_tie rfl ⟨rfl, rfl⟩ (by kernel_rfl) rfl plain (by kernel_rfl)
end Go.Proofs.YtdobjciaikofdaaGreatDoor.topShake
namespace Go.Proofs.YtdobjciaikofdaaGreatDoor
theorem topShake_holds : Rows.TopShakeCardSaid := topShake.card
#print axioms topShake_holds
end Go.Proofs.YtdobjciaikofdaaGreatDoor
