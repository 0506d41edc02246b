/- Part 25 of 39 of what the proof of this law needs. Put together by a program out of the texts: LnM WrJ WrK. -/
import Derived.Test.YtdobjciaikofdaaGreatDoorTopShakeAll22
import Derived.Test.YtdobjciaikofdaaGreatDoorTopShakeAll24
import Derived.Test.YtdobjciaikofdaaGreatDoorTopShakeAll19
namespace Go.Proofs.YtdobjciaikofdaaGreatDoor
section
open Go Go.Conc
set_option maxRecDepth 100000
def extF : List Nat := [144, 251, 262, 304, 322, 341, 342, 343, 344, 345, 346, 347, 348, 349, 350, 351, 352, 353, 355, 356, 394]
def extOk (P : Program) (i : Nat) : Bool := match P.funcs[i]? with
 | some fn => !(fn.name == "runtime.NumGoroutine") && (fn.body.isSome || extF.contains i || ((Extern.findNext fn).isNone && (Extern.find fn).isNone))
 | none => true
theorem ext_all : (List.range Tryz.prog.funcs.size).all (extOk Tryz.prog) = true := by kernel_rfl
theorem ext_tidy {f : FuncId} {fn : Func} (hf : Tryz.prog.funcs[f]? = some fn) (hb : fn.body = none) : Extern.findNext fn = none /\ ∀ e args, Extern.find fn = some e -> Tidy Tryz.prog (fun _ => True) (e args) := by
 have hlt := (Array.getElem?_eq_some_iff.1 hf).1
 have h := List.all_eq_true.1 ext_all f (by simpa using hlt)
 unfold extOk at h
 rw [hf] at h
 simp only [hb, Option.isSome_none, Bool.false_or, Bool.and_eq_true, Bool.or_eq_true] at h
 rcases h.2 with h | h
 ·have hm : f ∈ extF := by simpa using h
  simp only [extF, List.mem_cons, List.not_mem_nil, or_false] at hm
  rcases hm with rfl | rfl | rfl | rfl | rfl | rfl | rfl | rfl | rfl | rfl | rfl | rfl | rfl | rfl | rfl | rfl | rfl | rfl | rfl | rfl | rfl
  ·obtain rfl := Option.some.inj (hf.symm.trans Tryz.func144)
   refine ⟨by kernel_rfl, fun e args he => ?_⟩
   obtain rfl : Extern.AbiNoEscape.same = e := Option.some.inj ((show Extern.find Tryz.f144 = some (Extern.AbiNoEscape.same) by kernel_rfl).symm.trans he)
   exact t_extNoEscape _
  ·obtain rfl := Option.some.inj (hf.symm.trans Tryz.func251)
   refine ⟨by kernel_rfl, fun e args he => ?_⟩
   obtain rfl : Extern.BytealgIndexByte.indexByte = e := Option.some.inj ((show Extern.find Tryz.f251 = some (Extern.BytealgIndexByte.indexByte) by kernel_rfl).symm.trans he)
   exact t_extIndexByte _
  ·obtain rfl := Option.some.inj (hf.symm.trans Tryz.func262)
   refine ⟨by kernel_rfl, fun e args he => ?_⟩
   obtain rfl : Extern.BytealgMakeNoZero.makeNoZero Tryz.f262.params Tryz.f262.resultTypes = e := Option.some.inj ((show Extern.find Tryz.f262 = some (Extern.BytealgMakeNoZero.makeNoZero Tryz.f262.params Tryz.f262.resultTypes) by kernel_rfl).symm.trans he)
   exact t_extNoZero _ _ _
  ·obtain rfl := Option.some.inj (hf.symm.trans Tryz.func304)
   refine ⟨by kernel_rfl, fun e args he => ?_⟩
   obtain rfl : Extern.BytealgCount.count = e := Option.some.inj ((show Extern.find Tryz.f304 = some (Extern.BytealgCount.count) by kernel_rfl).symm.trans he)
   exact t_extCount _
  ·obtain rfl := Option.some.inj (hf.symm.trans Tryz.func322)
   refine ⟨by kernel_rfl, fun e args he => ?_⟩
   obtain rfl : Extern.BytealgIndex.index = e := Option.some.inj ((show Extern.find Tryz.f322 = some (Extern.BytealgIndex.index) by kernel_rfl).symm.trans he)
   exact t_extIndex _
  ·obtain rfl := Option.some.inj (hf.symm.trans Tryz.func341)
   refine ⟨by kernel_rfl, fun e args he => ?_⟩
   obtain rfl : (Extern.MathBitsCarry.rows.getD 0 ("", fun _ => .halt .blocked)).2 = e := Option.some.inj ((show Extern.find Tryz.f341 = some ((Extern.MathBitsCarry.rows.getD 0 ("", fun _ => .halt .blocked)).2) by kernel_rfl).symm.trans he)
   exact Tidy.bind (t_extThree "Add64" args) fun _ _ => .pure trivial
  ·obtain rfl := Option.some.inj (hf.symm.trans Tryz.func342)
   refine ⟨by kernel_rfl, fun e args he => ?_⟩
   obtain rfl : Extern.RuntimeError.boundsError = e := Option.some.inj ((show Extern.find Tryz.f342 = some (Extern.RuntimeError.boundsError) by kernel_rfl).symm.trans he)
   exact t_extBounds _
  ·obtain rfl := Option.some.inj (hf.symm.trans Tryz.func343)
   refine ⟨by kernel_rfl, fun e args he => ?_⟩
   obtain rfl : Extern.RuntimeError.nothing = e := Option.some.inj ((show Extern.find Tryz.f343 = some (Extern.RuntimeError.nothing) by kernel_rfl).symm.trans he)
   exact .pure trivial
  ·obtain rfl := Option.some.inj (hf.symm.trans Tryz.func344)
   refine ⟨by kernel_rfl, fun e args he => ?_⟩
   obtain rfl : (Extern.RuntimeError.rows.getD 0 ("", fun _ => .halt .blocked)).2 = e := Option.some.inj ((show Extern.find Tryz.f344 = some ((Extern.RuntimeError.rows.getD 0 ("", fun _ => .halt .blocked)).2) by kernel_rfl).symm.trans he)
   exact Tidy.bind (t_asString _) fun _ _ => .pure trivial
  ·obtain rfl := Option.some.inj (hf.symm.trans Tryz.func345)
   refine ⟨by kernel_rfl, fun e args he => ?_⟩
   obtain rfl : Extern.RuntimeError.nothing = e := Option.some.inj ((show Extern.find Tryz.f345 = some (Extern.RuntimeError.nothing) by kernel_rfl).symm.trans he)
   exact .pure trivial
  ·obtain rfl := Option.some.inj (hf.symm.trans Tryz.func346)
   refine ⟨by kernel_rfl, fun e args he => ?_⟩
   obtain rfl : (Extern.RuntimeError.rows.getD 1 ("", fun _ => .halt .blocked)).2 = e := Option.some.inj ((show Extern.find Tryz.f346 = some ((Extern.RuntimeError.rows.getD 1 ("", fun _ => .halt .blocked)).2) by kernel_rfl).symm.trans he)
   exact Tidy.bind (t_asString _) fun _ _ => .pure trivial
  ·obtain rfl := Option.some.inj (hf.symm.trans Tryz.func347)
   refine ⟨by kernel_rfl, fun e args he => ?_⟩
   obtain rfl : Extern.RuntimeError.nothing = e := Option.some.inj ((show Extern.find Tryz.f347 = some (Extern.RuntimeError.nothing) by kernel_rfl).symm.trans he)
   exact .pure trivial
  ·obtain rfl := Option.some.inj (hf.symm.trans Tryz.func348)
   refine ⟨by kernel_rfl, fun e args he => ?_⟩
   obtain rfl : (Extern.RuntimeError.rows.getD 2 ("", fun _ => .halt .blocked)).2 = e := Option.some.inj ((show Extern.find Tryz.f348 = some ((Extern.RuntimeError.rows.getD 2 ("", fun _ => .halt .blocked)).2) by kernel_rfl).symm.trans he)
   exact Tidy.bind (t_asAgg _) fun _ _ => Tidy.bind (t_asString _) fun _ _ => .pure trivial
  ·obtain rfl := Option.some.inj (hf.symm.trans Tryz.func349)
   refine ⟨by kernel_rfl, fun e args he => ?_⟩
   obtain rfl : Extern.RuntimeError.nothing = e := Option.some.inj ((show Extern.find Tryz.f349 = some (Extern.RuntimeError.nothing) by kernel_rfl).symm.trans he)
   exact .pure trivial
  ·obtain rfl := Option.some.inj (hf.symm.trans Tryz.func350)
   refine ⟨by kernel_rfl, fun e args he => ?_⟩
   obtain rfl : Extern.RuntimeError.typeAssertionError = e := Option.some.inj ((show Extern.find Tryz.f350 = some (Extern.RuntimeError.typeAssertionError) by kernel_rfl).symm.trans he)
   exact t_extTypeAssertion _
  ·obtain rfl := Option.some.inj (hf.symm.trans Tryz.func351)
   refine ⟨by kernel_rfl, fun e args he => ?_⟩
   obtain rfl : Extern.RuntimeError.nothing = e := Option.some.inj ((show Extern.find Tryz.f351 = some (Extern.RuntimeError.nothing) by kernel_rfl).symm.trans he)
   exact .pure trivial
  ·obtain rfl := Option.some.inj (hf.symm.trans Tryz.func352)
   refine ⟨by kernel_rfl, fun e args he => ?_⟩
   obtain rfl : (Extern.RuntimeError.rows.getD 6 ("", fun _ => .halt .blocked)).2 = e := Option.some.inj ((show Extern.find Tryz.f352 = some ((Extern.RuntimeError.rows.getD 6 ("", fun _ => .halt .blocked)).2) by kernel_rfl).symm.trans he)
   exact t_extText _
  ·obtain rfl := Option.some.inj (hf.symm.trans Tryz.func353)
   refine ⟨by kernel_rfl, fun e args he => ?_⟩
   obtain rfl : Extern.RuntimeError.nothing = e := Option.some.inj ((show Extern.find Tryz.f353 = some (Extern.RuntimeError.nothing) by kernel_rfl).symm.trans he)
   exact .pure trivial
  ·obtain rfl := Option.some.inj (hf.symm.trans Tryz.func355)
   refine ⟨by kernel_rfl, fun e args he => ?_⟩
   obtain rfl : Extern.RuntimeError.unhashableTypeError = e := Option.some.inj ((show Extern.find Tryz.f355 = some (Extern.RuntimeError.unhashableTypeError) by kernel_rfl).symm.trans he)
   exact t_extUnhashable _
  ·obtain rfl := Option.some.inj (hf.symm.trans Tryz.func356)
   refine ⟨by kernel_rfl, fun e args he => ?_⟩
   obtain rfl : Extern.RuntimeError.nothing = e := Option.some.inj ((show Extern.find Tryz.f356 = some (Extern.RuntimeError.nothing) by kernel_rfl).symm.trans he)
   exact .pure trivial
  ·obtain rfl := Option.some.inj (hf.symm.trans Tryz.func394)
   refine ⟨by kernel_rfl, fun e args he => ?_⟩
   obtain rfl : (Extern.ReflectliteType.rows.getD 11 ("", fun _ => .halt .blocked)).2 = e := Option.some.inj ((show Extern.find Tryz.f394 = some ((Extern.ReflectliteType.rows.getD 11 ("", fun _ => .halt .blocked)).2) by kernel_rfl).symm.trans he)
   exact Tidy.bind (t_asInt _) fun _ _ => .pure trivial
 ·refine ⟨by simpa using h.1, fun e args he => ?_⟩
  have := h.2
  rw [he] at this
  cases this
theorem name_ok {f : FuncId} {fn : Func} (hf : Tryz.prog.funcs[f]? = some fn) : (fn.name == "runtime.NumGoroutine") = false := by
 have hlt := (Array.getElem?_eq_some_iff.1 hf).1
 have h := List.all_eq_true.1 ext_all f (by simpa using hlt)
 unfold extOk at h
 rw [hf] at h
 simp only [Bool.and_eq_true, Bool.not_eq_true'] at h
 exact h.1
theorem t_callFunc (f : FuncId) (args : Array Value) : Tidy Tryz.prog lnN (callFunc f args) := by
 unfold callFunc
 refine tidy_program ?_
 rcases hf : Tryz.prog.funcs[f]? with _ | fn
 ·exact tidy_stuck
 ·dsimp only
  rw [if_neg (by rw [name_ok hf]; decide)]
  cases hb : fn.body with
  | some c => rw [if_neg (by simp)]; exact .pure trivial
  | none =>
   rw [if_pos (by simp)]
   obtain ⟨h1, h2⟩ := ext_tidy hf hb
   refine Tidy.bind (R := fun _ => True) (.mark rfl (.pure trivial)) fun _ _ => ?_
   rw [h1]
   dsimp only
   cases he : Extern.find fn with
   | some e => exact Tidy.bind (h2 e args he) fun _ _ => .pure trivial
   | none =>
    dsimp only
    split
    ·exact .pure trivial
    ·exact .halt rfl
theorem t_callMethod (r : Value) (n : String) (args : Array Value) : Tidy Tryz.prog lnN (callMethod r n args) := by
 unfold callMethod
 split
 ·refine tidy_program ?_
  exact Tidy.bind (t_method ..) fun _ _ => t_callFunc _ _
 ·exact tidy_panic
 ·exact tidy_stuck
theorem val_of {P : Program} {s : Sem Value} (h : Tidy P (fun _ => True) s) : Tidy P lnN (do pure (.value (<- s))) := Tidy.bind h fun _ _ => .pure trivial
theorem unit_of {P : Program} {s : Sem Unit} (h : Tidy P (fun _ => True) s) : Tidy P lnN (do s; pure .skip) := Tidy.bind h fun _ _ => .pure trivial
theorem t_builtin {P : Program} (b : Builtin) (ts : Array TypeId) (t : TypeId) (cs : Array Bool) (args : Array Value) (hb : lnB b = true) : Tidy P lnN (builtin b ts t cs args) := by
 unfold builtin
 cases b <;> first | (cases hb; done) | skip
 case append => exact val_of (t_append ..)
 case cap => exact val_of (t_cap ..)
 case close => exact val_of (t_close ..)
 case copy => exact val_of (t_copy ..)
 case delete => exact val_of (t_delete ..)
 case len => exact val_of (t_len ..)
 case max => exact val_of (t_max ..)
 case min => exact val_of (t_min ..)
 case panic => exact val_of (t_panic ..)
 case recover => exact .pure trivial
 case unsafeSliceData => exact val_of (t_unsafeSliceData ..)
 case unsafeString => exact val_of (t_unsafeString ..)
theorem t_invoke (t : Target) (args : Array Value) (ht : lnT t = true) : Tidy Tryz.prog lnN (invoke t args) := by
 unfold invoke
 cases t with
 | nil => exact tidy_panic
 | builtin b ts t cs => exact t_builtin b ts t cs args ht
 | collected n => exact tidy_stuck
 | coroexit c => cases ht
 | fn f c =>
  cases f with
  | func f => exact t_callFunc _ _
  | yield l => exact tidy_yield
  | method n =>
   dsimp only
   split
   ·exact t_callMethod _ _ _
   ·exact tidy_stuck
  | methodOf t n =>
   dsimp only
   split
   ·refine tidy_underlying fun d => ?_
    exact t_callMethod _ _ _
   ·exact tidy_stuck
  | via t p f b =>
   dsimp only
   split
   ·exact Tidy.bind (t_receiverVia ..) fun _ _ => t_callFunc _ _
   ·exact tidy_stuck
theorem t_ofValue {P : Program} (f : Value) (args : Array Value) : Tidy P (fun d => lnD d = true) (Deferred.ofValue f args) := by
 unfold Deferred.ofValue
 split
 ·exact .pure rfl
 ·exact .pure rfl
 ·exact tidy_stuck
theorem t_resolve {P : Program} (ρ : Operand -> Value) (c : Call) (t : TypeId) (hc : ∀ b, c.callee = .builtin b -> lnB b = true) : Tidy P (fun d => lnD d = true) (resolve ρ c t) := by
 unfold resolve
 obtain ⟨cl, xs, ts⟩ := c
 cases cl with
 | builtin b => exact .pure (hc b rfl)
 | invoke r n => exact .pure rfl
 | value f => exact t_ofValue _ _
def lnS : Op -> Prop
 | .go _ | .send .. | .recv .. | .select .. => False
 | _ => True
theorem t_execOp0 (ρ : Operand -> Value) (o : Oper) (r : Bool) (ho : lnOp r o.op = true) (hs : lnS o.op) : Tidy Tryz.prog lnN (execOp ρ o) := by
 unfold execOp
 obtain ⟨d, op, ty, ps, af, gd⟩ := o
 dsimp only at ho hs ⊢
 cases op
 case move => exact .pure trivial
 case assign => exact .pure trivial
 case pick => exact Tidy.bind (t_asBool _) fun _ _ => .pure trivial
 case alloc => exact val_of (t_alloc ..)
 case box => exact val_of (t_box ..)
 case build => exact val_of (t_build ..)
 case buildSlice => exact val_of (t_buildSlice ..)
 case load => exact val_of (t_loadAt ..)
 case store => exact unit_of (t_storeAt ..)
 case binOp => exact val_of (Tidy.bind (t_eqGuard ..) fun _ _ => t_binOp ..)
 case unOp => exact val_of (t_unary ..)
 case convert => exact val_of (t_convert ..)
 case sliceToArrayPointer => exact val_of (t_arrayAt ..)
 case makeInterface => exact val_of (t_makeInterface ..)
 case makeFunc => exact val_of (t_makeFunc ..)
 case makeMap => exact val_of (t_makeMap ..)
 case makeChan => exact val_of (t_makeChan ..)
 case makeSlice => exact val_of (t_makeSlice ..)
 case slice => exact val_of (t_sliceAt ..)
 case fieldAddr => exact val_of (t_fieldAt ..)
 case field => exact val_of (t_field ..)
 case indexAddr => exact val_of (t_indexAt ..)
 case index => exact val_of (t_index ..)
 case lookup => exact val_of (t_lookup ..)
 case mapUpdate => exact unit_of (t_mapUpdate ..)
 case insert => exact unit_of (t_mapUpdate ..)
 case range => exact val_of (t_range ..)
 case next => exact val_of (t_next ..)
 case typeAssert => exact val_of (t_typeAssert ..)
 case extract => exact val_of (t_extract ..)
 case panic => exact val_of (t_panic ..)
 case nilCheck x =>
  dsimp only
  split
  ·exact tidy_panic
  ·exact tidy_panic
  ·exact tidy_panic
  ·split
   ·exact tidy_panic
   ·refine tidy_program ?_
    refine Tidy.bind (t_nilAhead ..) fun _ _ => ?_
    split
    ·exact .halt rfl
    ·exact .pure trivial
   ·exact .pure trivial
  ·exact .pure trivial
 case call c =>
  refine Tidy.bind (t_resolve ρ c ty fun b hb => ?_) fun d hd => t_invoke _ _ hd
  obtain ⟨cl, xs, ts⟩ := c
  dsimp only at hb
  subst hb
  exact ho
 case defer c =>
  refine Tidy.bind (t_resolve ρ c ty fun b hb => ?_) fun d hd => .pure hd
  obtain ⟨cl, xs, ts⟩ := c
  dsimp only at hb
  subst hb
  simp only [lnOp, Bool.and_eq_true] at ho
  exact ho.2
 all_goals first | exact False.elim hs | cases ho
theorem tidy_mapMG {P : Program} {α β : Type} {f : α -> Sem β} (h : ∀ x, Tidy P (fun _ => True) (f x)) (l : Array α) : Tidy P (fun _ => True) (l.mapM f) := tidy_mapMA h l
theorem t_execOp (ρ : Operand -> Value) (o : Oper) (r : Bool) (ho : lnOp r o.op = true) : Tidy Tryz.prog lnX (execOp ρ o) := by
 obtain ⟨d, op, ty, ps, af, gd⟩ := o
 dsimp only at ho
 cases op
 case go c =>
  refine Tidy.bind (t_resolve ρ c ty fun b hb => ?_) fun d hd => .pure trivial
  obtain ⟨cl, xs, ts⟩ := c
  dsimp only at hb
  subst hb
  exact ho
 case send ch x => exact .pure trivial
 case recv t ch ok =>
  refine tidy_underlying fun d => ?_
  split
  ·exact Tidy.bind (t_zeroValue ..) fun _ _ => .pure trivial
  ·exact tidy_stuck
 case select cases b => exact Tidy.bind (tidy_mapMG (fun x => Tidy.bind (t_zeroValue ..) fun _ _ => .pure trivial) _) fun _ _ => .pure trivial
 all_goals exact (t_execOp0 ρ _ r ho (by trivial)).mono fun _ h => lnX_of h
def lnBodies (P : Program) : Bool := P.funcs.all fun fn => match fn.body with | some c => lnC false c | none => true
theorem bodies_ok : lnBodies Tryz.prog = true := by kernel_rfl
theorem progLn : ProgLn Tryz.prog where
 body := fun f fn c hf hb => by
  have h := bodies_ok
  unfold lnBodies at h
  rw [Array.all_eq_true_iff_forall_mem] at h
  have := h fn (Array.mem_of_getElem? hf)
  rw [hb] at this
  exact this
 op := t_execOp
 inv := t_invoke
 back := by kernel_rfl
 ahead := by kernel_rfl
 val := t_ofValue
end
section
open Go Go.Conc Go.RowKit Go.Shelf
theorem veil_new {w W1 w1 : World} (V : Veil w W1 w1) {b : Nat} {o : Obj} (h : W1.heap[b]? = some o) (ho : o ≠ .coro none) : w1.heap[b]? = some o := by
 rw [V.same b (by rw [h]; intro e; exact ho (Option.some.inj e))]
 exact h
theorem veil_kept {w W1 w1 : World} {T : Tape} (V : Veil w W1 w1) (ht : w1.tape = w.tape) (hb : Below w.heap.size { veiled w with tape := T } W1) : Kept w w1 := by
 have hs : ({ veiled w with tape := T } : World).heap.size = w.heap.size := by simp [veiled]
 refine ⟨V.os.trans hb.os, V.output.trans hb.output, ht, ?_, fun b hlt => keep_back (T := T) rfl V (hb.block b hlt)⟩
 have := hb.size
 rw [V.size]
 omega
theorem wP0 (x4 x5 x6 x7 x8 x9 x10 x11 x12 : Value) (a0 : Option Addr) (len cap : Nat) (fi ri : Int) (st : Nat) (w : World) :
  pP0.wp Tryz.prog (fun e a' w' => e = .normal /\ a' = ⟨#[.slice a0 len cap, .int .i64 fi, .int .i64 ri, .chan (some st), .pointer (some ⟨w.heap.size, 0, none⟩), .pointer (some ⟨w.heap.size + 1, 0, none⟩), .pointer (some ⟨w.heap.size + 1 + 1, 0, none⟩), .pointer (some ⟨w.heap.size + 1 + 1 + 1, 0, none⟩), .chan none, x9, x10, x11, x12], []⟩ /\ w' = (((w.alloc (.cells #[.slice a0 len cap] 22)).alloc (.cells #[.int .i64 fi] 3)).alloc (.cells #[.int .i64 ri] 3)).alloc (.cells #[.chan (some st)] 283))
   ⟨#[.slice a0 len cap, .int .i64 fi, .int .i64 ri, .chan (some st), x4, x5, x6, x7, x8, x9, x10, x11, x12], []⟩ w := by
 unfold pP0 bPt
 simp only [cF, Option.getD_some, Tryz.f171]
 go_wp2
set_option maxRecDepth 100000 in
theorem mkChanU (W : World) : (Instr.makeChan 284 (.int .i64 0)).run Tryz.prog W = .ok (.chan (some W.heap.size)) (W.alloc (.chan 0 #[] false 0 0 false)) := by
 obtain ⟨i, hi, hb⟩ : ∃ i, Tryz.prog.info? 22 = some i /\ i.bytes = 24 := ⟨_, rfl, rfl⟩
 exact Go.Conc.run_makeChan (P := Tryz.prog) (w := W) Tryz.underlying284 hi .i64 0 (by decide) (by rw [hb]; decide)
set_option maxRecDepth 100000 in
theorem mkChanW (W : World) : (Instr.makeChan 251 (.int .i64 0)).run Tryz.prog W = .ok (.chan (some W.heap.size)) (W.alloc (.chan 0 #[] false 0 0 false)) := by
 obtain ⟨i, hi, hb⟩ : ∃ i, Tryz.prog.info? 285 = some i /\ i.bytes = 0 := ⟨_, rfl, rfl⟩
 exact Go.Conc.run_makeChan (P := Tryz.prog) (w := W) Tryz.underlying251 hi .i64 0 (by decide) (by rw [hb]; decide)
set_option maxRecDepth 100000 in
theorem wP1 (x0 x1 x2 x3 x4 x5 x6 x7 x8 x9 x10 x11 x12 : Value) (w : World) :
  pP1.wp Tryz.prog (fun e a' w' => e = .normal /\ a' = ⟨#[x0, x1, x2, x3, x4, x5, x6, x7, x8, .pointer (some ⟨w.heap.size + 1, 0, none⟩), .chan (some w.heap.size), x11, x12], []⟩ /\ w' = (w.alloc (.chan 0 #[] false 0 0 false)).alloc (.cells #[.chan (some w.heap.size)] 284))
   ⟨#[x0, x1, x2, x3, x4, x5, x6, x7, x8, x9, x10, x11, x12], []⟩ w := by
 have hm := mkChanU
 unfold pP1 bPt
 simp only [cF, cS, Option.getD_some, Tryz.f171]
 go_wp2
theorem cell1 {W : World} {g : Nat} {v : Value} {t : TypeId} (h : W.heap[g]? = some (.cells #[v] t (0, 0))) : W.cell? ⟨g, 0, none⟩ = some v /\ W.frozen? ⟨g, 0, none⟩ = false := by
 constructor
 ·unfold World.cell?
  rw [h]
  rfl
 ·unfold World.frozen?
  rw [h]
  rfl
theorem four_new {W W1 : World} {N : Nat} (e : W.heap.size = N) {o1 o2 o3 o4 : Obj} (h : W1 = (((W.alloc o1).alloc o2).alloc o3).alloc o4) : Below N W W1 /\ W1.heap[N]? = some o1 /\ W1.heap[N + 1]? = some o2 /\ W1.heap[N + 1 + 1]? = some o3 /\ W1.heap[N + 1 + 1 + 1]? = some o4 /\ W1.heap.size = N + 4 := by
 subst e h
 refine ⟨bl_alloc (bl_alloc (bl_alloc (bl_alloc (bl_refl _)))), heap_past _ _ _ _ (by simp <;> omega) (heap_past _ _ _ _ (by simp <;> omega) (heap_past _ _ _ _ (by simp) (heap_at _ _ _ rfl))), heap_past _ _ _ _ (by simp <;> omega) (heap_past _ _ _ _ (by simp) (heap_at _ _ _ (by simp))), heap_past _ _ _ _ (by simp) (heap_at _ _ _ (by simp)), heap_at _ _ _ (by simp), by simp⟩
theorem two_new {W W1 : World} {N : Nat} (e : W.heap.size = N) {o1 o2 : Obj} (h : W1 = (W.alloc o1).alloc o2) : Below N W W1 /\ W1.heap[N]? = some o1 /\ W1.heap[N + 1]? = some o2 /\ W1.heap.size = N + 2 := by
 subst e h
 exact ⟨bl_alloc (bl_alloc (bl_refl _)), heap_past _ _ _ _ (by simp) (heap_at _ _ _ rfl), heap_at _ _ _ (by simp), by simp⟩
theorem one_new {W W1 : World} {N : Nat} (e : W.heap.size = N) {o1 : Obj} (h : W1 = W.alloc o1) : Below N W W1 /\ W1.heap[N]? = some o1 /\ W1.heap.size = N + 1 := by
 subst e h
 exact ⟨bl_alloc (bl_refl _), heap_at _ _ _ rfl, by simp⟩
section
variable {b ib off len cap c st n : Nat} {f : Nat -> Nat} {w0 w : World} {s : Spg} {a0 : Option Addr} {Post : Value -> World -> Prop}
theorem size_veiled (w : World) (T : Tape) : ({ veiled w with tape := T } : World).heap.size = w.heap.size := by simp [veiled]
set_option maxRecDepth 100000 in
theorem parts_U (W0 : WGround b ib off len f s w0) (hk : Kept w0 w) (hcap : len <= cap) (h0 : 0 < len -> a0 = some ⟨ib, off, none⟩) (hn1 : ∀ j, j < n -> 0 < lU off len cap (s.rate - s.at_) s.rate j) (hn2 : lU off len cap (s.rate - s.at_) s.rate n = 0)
  (gst : w0.heap.size <= st) {tm2 : Bool} (hst : w.heap[st]? = some (.chan 0 #[] false 0 0 tm2))
  {T : Array Value} (hT : T.size = 68 /\ T[0]? = some (.pointer (some ⟨b, 0, none⟩)) /\ T[1]? = some (.slice a0 len cap) /\ T[6]? = some (.chan (some st))) {cs : List Frame}
  (hEnd : ∀ (w' : World) (c : Nat) (T' : Array Value) (tm : Bool), w0.grownBy w' (some b) -> Sp w' b (sU s len cap off f n) -> w'.heap[st]? = some (.chan 0 #[] false 0 0 tm) -> UT b st c (.slice a0 len cap) T' -> RunsOn Tryz.prog Post (G ((base 105).at ⟨T', [dcloseW st]⟩ [.code (.seq pW12 .ret)]) cs) w') :
  RunsOn Tryz.prog Post (G ((base 171).at ⟨#[.slice a0 len cap, .int .i64 (s.rate - s.at_ : Nat), .int .i64 s.rate, .chan (some st), undef, undef, undef, undef, undef, undef, undef, undef, undef], []⟩ [.code bPt]) (frU st T :: cs)) w := by
 have hstl := (Array.getElem?_eq_some_iff.1 hst).1
 refine run_ctl (fun w => step_code bPt_is) ?_
 refine lone_code progLn ⟨by kernel_rfl, fun c hc => (by cases hc), rfl⟩ (fun W e a' W' => e = .normal /\ a' = ⟨#[.slice a0 len cap, .int .i64 (s.rate - s.at_ : Nat), .int .i64 s.rate, .chan (some st), .pointer (some ⟨W.heap.size, 0, none⟩), .pointer (some ⟨W.heap.size + 1, 0, none⟩), .pointer (some ⟨W.heap.size + 1 + 1, 0, none⟩), .pointer (some ⟨W.heap.size + 1 + 1 + 1, 0, none⟩), .chan none, undef, undef, undef, undef], []⟩ /\ W' = (((W.alloc (.cells #[.slice a0 len cap] 22)).alloc (.cells #[.int .i64 (s.rate - s.at_ : Nat)] 3)).alloc (.cells #[.int .i64 s.rate] 3)).alloc (.cells #[.chan (some st)] 283)) (fun W _ => Go.wp_mono (wP0 _ _ _ _ _ _ _ _ _ a0 len cap _ _ st W) fun e a' w' ⟨h1, h2, h3⟩ => ⟨.inl h1, h1, h2, h3⟩) ?_ (fun _ _ _ _ _ h => by cases h.1)
 rintro Tp a' W1 w1 ⟨_, ha, hW1⟩ V ht hs
 obtain ⟨hB, q1, q2, q3, q4, z1⟩ := four_new (size_veiled w Tp) hW1
 have K1 := veil_kept V ht hB
 rw [<- V.size] at z1
 have p1 := veil_new V q1 (by simp)
 have p2 := veil_new V q2 (by simp)
 have p3 := veil_new V q3 (by simp)
 have p4 := veil_new V q4 (by simp)
 rw [size_veiled] at ha
 rw [ha]
 clear q1 q2 q3 q4 hB V hW1 ha hs ht
 refine run_ctl (fun w => stepG_seq) ?_
 refine lone_code progLn ⟨by kernel_rfl, fun c hc => (by cases hc), rfl⟩ (fun W e a' W' => e = .normal /\ a' = ⟨#[.slice a0 len cap, .int .i64 (s.rate - s.at_ : Nat), .int .i64 s.rate, .chan (some st), .pointer (some ⟨w.heap.size, 0, none⟩), .pointer (some ⟨w.heap.size + 1, 0, none⟩), .pointer (some ⟨w.heap.size + 1 + 1, 0, none⟩), .pointer (some ⟨w.heap.size + 1 + 1 + 1, 0, none⟩), .chan none, .pointer (some ⟨W.heap.size + 1, 0, none⟩), .chan (some W.heap.size), undef, undef], []⟩ /\ W' = (W.alloc (.chan 0 #[] false 0 0 false)).alloc (.cells #[.chan (some W.heap.size)] 284)) (fun W _ => Go.wp_mono (wP1 _ _ _ _ _ _ _ _ _ _ _ _ _ W) fun e a' w' ⟨h1, h2, h3⟩ => ⟨.inl h1, h1, h2, h3⟩) ?_ (fun _ _ _ _ _ h => by cases h.1)
 rintro Tp a' W2 w2 ⟨_, ha, hW2⟩ V ht hs
 have hW2' := hW2
 rw [size_veiled] at hW2'
 obtain ⟨hB, q1, q2, z2⟩ := two_new (size_veiled w1 Tp) hW2'
 have K2 := veil_kept V ht hB
 rw [<- V.size] at z2
 have p5 := veil_new V q1 (by simp)
 have p6 := veil_new V q2 (by simp)
 rw [size_veiled] at ha
 rw [ha]
 clear q1 q2 hB V hW2 hW2' ha hs ht
 have r1 : w2.heap[w.heap.size]? = _ := (K2.keep _ (by omega)).trans p1
 have r2 : w2.heap[w.heap.size + 1]? = _ := (K2.keep _ (by omega)).trans p2
 have r3 : w2.heap[w.heap.size + 1 + 1]? = _ := (K2.keep _ (by omega)).trans p3
 have r4 : w2.heap[w.heap.size + 1 + 1 + 1]? = _ := (K2.keep _ (by omega)).trans p4
 have r5 : w2.heap[st]? = _ := (K2.keep _ (by omega)).trans ((K1.keep _ hstl).trans hst)
 have hkk := hk.size
 refine run_ctl (fun w => stepG_seq) (run_ctl (fun w => step_reg pP2_is lsP2) ?_)
 obtain ⟨o, h1, h2, h3, h4⟩ := opP2_0
 refine run_val (w' := w2) _ h1 (wanted_none h4 _) kindP (fun d => (run_makeFuncU h2 rfl rfl rfl rfl rfl _).1) (fun d => (run_makeFuncU h2 rfl rfl rfl rfl rfl _).2) ⟨Nat.le_refl _, rfl, rfl, rfl⟩ ?_
 rw [h3]
 simp only [Act.put, List.setIfInBounds_toArray, List.set_cons_zero, List.set_cons_succ]
 clear h1 h2 h3 h4 o
 exact go_U W0 (hk.trans (K1.trans K2)) hcap h0 hn1 hn2 (by simp; omega) (by simp; omega) (cell1 p6).1 (cell1 r2).1 (cell1 r1).1 (cell1 r1).2 (cell1 r3).1 (cell1 r4).1 p5 r5 _ _ _ _ _ _ _ hT (fun w' T' tm => hEnd w' _ T' tm)
end
end
section
open Go Go.Conc Go.RowKit Go.Shelf
noncomputable def qW1 : Code := cF rW
theorem bWr_is2 : bWr = .seq pW0 (.seq qW1 (.seq pW3 (.seq pW4 (.seq (.seq pW5 (.block 0 (.loop LWr))) (.seq pW12 .ret))))) := by kernel_rfl
section
variable {b len cap st : Nat} {a0 : Option Addr}
set_option maxRecDepth 100000 in
theorem wA {T : Array Value} (hT : T.size = 68) (h0 : T[0]? = some (.pointer (some ⟨b, 0, none⟩))) (h1 : T[1]? = some (.slice a0 len cap)) (w : World) :
  pW0.wp Tryz.prog (fun e a' w' => e = .normal /\ a'.tmps.size = 68 /\ a'.tmps[0]? = some (.pointer (some ⟨b, 0, none⟩)) /\ a'.tmps[1]? = some (.slice a0 len cap) /\ a'.defers = [] /\ w' = w) ⟨T, []⟩ w := by
 obtain ⟨x0, x1, x2, x3, x4, x5, x6, x7, x8, x9, x10, x11, x12, x13, x14, x15, x16, x17, x18, x19, x20, x21, x22, x23, x24, x25, x26, x27, x28, x29, x30, x31, x32, x33, x34, x35, x36, x37, x38, x39, x40, x41, x42, x43, x44, x45, x46, x47, x48, x49, x50, x51, x52, x53, x54, x55, x56, x57, x58, x59, x60, x61, x62, x63, x64, x65, x66, x67, rfl⟩ := lit68 hT
 obtain rfl : x0 = _ := Option.some.inj h0
 obtain rfl : x1 = _ := Option.some.inj h1
 clear h0 h1 hT
 unfold pW0 bWr
 simp only [cF, Option.getD_some, Tryz.f105]
 go_wp2
set_option maxRecDepth 100000 in
theorem wB {T : Array Value} (hT : T.size = 68) (h0 : T[0]? = some (.pointer (some ⟨b, 0, none⟩))) (h1 : T[1]? = some (.slice a0 len cap)) (w : World) (hc : w.cell? ⟨b, 28, none⟩ = some (.bool false)) :
  qW1.wp Tryz.prog (fun e a' w' => e = .normal /\ a'.tmps.size = 68 /\ a'.tmps[0]? = some (.pointer (some ⟨b, 0, none⟩)) /\ a'.tmps[1]? = some (.slice a0 len cap) /\ a'.defers = [] /\ w' = w) ⟨T, []⟩ w := by
 obtain ⟨x0, x1, x2, x3, x4, x5, x6, x7, x8, x9, x10, x11, x12, x13, x14, x15, x16, x17, x18, x19, x20, x21, x22, x23, x24, x25, x26, x27, x28, x29, x30, x31, x32, x33, x34, x35, x36, x37, x38, x39, x40, x41, x42, x43, x44, x45, x46, x47, x48, x49, x50, x51, x52, x53, x54, x55, x56, x57, x58, x59, x60, x61, x62, x63, x64, x65, x66, x67, rfl⟩ := lit68 hT
 obtain rfl : x0 = _ := Option.some.inj h0
 obtain rfl : x1 = _ := Option.some.inj h1
 clear h0 h1 hT
 unfold qW1 rW bWr
 simp only [cF, cS, Option.getD_some, Tryz.f105]
 go_wp2
set_option maxRecDepth 100000 in
theorem wC {T : Array Value} (hT : T.size = 68) (h0 : T[0]? = some (.pointer (some ⟨b, 0, none⟩))) (h1 : T[1]? = some (.slice a0 len cap)) (w : World) :
  pW3.wp Tryz.prog (fun e a' w' => e = .normal /\ a'.tmps.size = 68 /\ a'.tmps[0]? = some (.pointer (some ⟨b, 0, none⟩)) /\ a'.tmps[1]? = some (.slice a0 len cap) /\ a'.defers = [] /\ a'.tmps[6]? = some (.chan (some w.heap.size)) /\ w' = w.alloc (.chan 0 #[] false 0 0 false)) ⟨T, []⟩ w := by
 obtain ⟨x0, x1, x2, x3, x4, x5, x6, x7, x8, x9, x10, x11, x12, x13, x14, x15, x16, x17, x18, x19, x20, x21, x22, x23, x24, x25, x26, x27, x28, x29, x30, x31, x32, x33, x34, x35, x36, x37, x38, x39, x40, x41, x42, x43, x44, x45, x46, x47, x48, x49, x50, x51, x52, x53, x54, x55, x56, x57, x58, x59, x60, x61, x62, x63, x64, x65, x66, x67, rfl⟩ := lit68 hT
 obtain rfl : x0 = _ := Option.some.inj h0
 obtain rfl : x1 = _ := Option.some.inj h1
 clear h0 h1 hT
 have hm := mkChanW
 unfold pW3 rW bWr
 simp only [cF, cS, Option.getD_some, Tryz.f105]
 go_wp2
set_option maxRecDepth 100000 in
theorem wD {T : Array Value} (hT : T.size = 68) (h0 : T[0]? = some (.pointer (some ⟨b, 0, none⟩))) (h1 : T[1]? = some (.slice a0 len cap)) (h6 : T[6]? = some (.chan (some st))) (w : World) :
  pW4.wp Tryz.prog (fun e a' w' => e = .normal /\ a'.tmps.size = 68 /\ a'.tmps[0]? = some (.pointer (some ⟨b, 0, none⟩)) /\ a'.tmps[1]? = some (.slice a0 len cap) /\ a'.defers = [dcloseW st] /\ a'.tmps[6]? = some (.chan (some st)) /\ w' = w) ⟨T, []⟩ w := by
 obtain ⟨x0, x1, x2, x3, x4, x5, x6, x7, x8, x9, x10, x11, x12, x13, x14, x15, x16, x17, x18, x19, x20, x21, x22, x23, x24, x25, x26, x27, x28, x29, x30, x31, x32, x33, x34, x35, x36, x37, x38, x39, x40, x41, x42, x43, x44, x45, x46, x47, x48, x49, x50, x51, x52, x53, x54, x55, x56, x57, x58, x59, x60, x61, x62, x63, x64, x65, x66, x67, rfl⟩ := lit68 hT
 obtain rfl : x0 = _ := Option.some.inj h0
 obtain rfl : x1 = _ := Option.some.inj h1
 obtain rfl : x6 = _ := Option.some.inj h6
 clear h0 h1 h6 hT
 unfold pW4 rW bWr
 simp only [cF, cS, Option.getD_some, Tryz.f105]
 go_wp2
 rfl
set_option maxRecDepth 100000 in
theorem wE {T : Array Value} (hT : T.size = 68) (h0 : T[0]? = some (.pointer (some ⟨b, 0, none⟩))) (h1 : T[1]? = some (.slice a0 len cap)) (w : World) :
  pW12.wp Tryz.prog (fun e a' w' => e = .normal /\ a'.tmps.size = 68 /\ a'.tmps[0]? = some (.pointer (some ⟨b, 0, none⟩)) /\ a'.tmps[1]? = some (.slice a0 len cap) /\ a'.defers = [dcloseW st] /\ a'.tmps[4]? = some (.int .i64 len) /\ a'.tmps[5]? = some (.int .i64 0) /\ w' = w) ⟨T, [dcloseW st]⟩ w := by
 obtain ⟨x0, x1, x2, x3, x4, x5, x6, x7, x8, x9, x10, x11, x12, x13, x14, x15, x16, x17, x18, x19, x20, x21, x22, x23, x24, x25, x26, x27, x28, x29, x30, x31, x32, x33, x34, x35, x36, x37, x38, x39, x40, x41, x42, x43, x44, x45, x46, x47, x48, x49, x50, x51, x52, x53, x54, x55, x56, x57, x58, x59, x60, x61, x62, x63, x64, x65, x66, x67, rfl⟩ := lit68 hT
 obtain rfl : x0 = _ := Option.some.inj h0
 obtain rfl : x1 = _ := Option.some.inj h1
 clear h0 h1 hT
 unfold pW12 rW2 rW bWr
 simp only [cF, cS, Option.getD_some, Tryz.f105]
 go_wp2
end
end
end Go.Proofs.YtdobjciaikofdaaGreatDoor
