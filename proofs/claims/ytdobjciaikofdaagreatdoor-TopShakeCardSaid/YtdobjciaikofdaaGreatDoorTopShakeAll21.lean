/- Part 21 of 39 of what the proof of this law needs. Put together by a program out of the texts: LnK LnKb LnKc LnKd LnKe LnKf LnKg LnKh LnKi LnKj. -/
import Derived.Test.YtdobjciaikofdaaGreatDoorTopShakeAll20
namespace Go.Proofs.YtdobjciaikofdaaGreatDoor
section
open Go Go.Conc
set_option linter.unusedSectionVars false
set_option maxRecDepth 4000
section
variable {P : Program}
class TC (P : Program) {α : Type} (s : Sem α) : Prop where
 h : Tidy P (fun _ => True) s
theorem t_sizeOf (t : TypeId) : Tidy P (fun _ => True) (sizeOf t) := tidy_sizeOf
theorem t_isAgg (t : TypeId) : Tidy P (fun _ => True) (isAgg t) := tidy_isAgg
theorem t_loadVar (t : TypeId) (a : Addr) : Tidy P (fun _ => True) (loadVar t a) := tidy_loadVar
theorem t_loadCellsFrom (a : Addr) (n i : Nat) (acc : Array Value) : Tidy P (fun _ => True) (loadCellsFrom a i n acc) := tidy_loadCellsFrom a n i acc
theorem t_asAddr (v : Value) : Tidy P (fun _ => True) (asAddr v) := tidy_asAddr
instance i_sizeOf (t : TypeId)  : TC P (sizeOf t) := ⟨t_sizeOf ..⟩
instance i_isAgg (t : TypeId)  : TC P (isAgg t) := ⟨t_isAgg ..⟩
instance i_loadVar (t : TypeId) (a : Addr)  : TC P (loadVar t a) := ⟨t_loadVar ..⟩
instance i_loadCellsFrom (a : Addr) (n i : Nat) (acc : Array Value)  : TC P (loadCellsFrom a i n acc) := ⟨t_loadCellsFrom ..⟩
instance i_asAddr (v : Value)  : TC P (asAddr v) := ⟨t_asAddr ..⟩
theorem tidy_pureBind {α β : Type} {R : β -> Prop} {a : α} {f : α -> Sem β} (h : Tidy P R (f a)) : Tidy P R ((pure a : Sem α) >>= f) := h
theorem tidy_ifTT {α : Type} {R : α -> Prop} {a b : Sem α} (h : Tidy P R a) : Tidy P R (if true = true then a else b) := h
theorem tidy_ifNT {α : Type} {R : α -> Prop} {a b : Sem α} (h : Tidy P R b) : Tidy P R (if (!true) = true then a else b) := h
theorem tidy_ifFF {α : Type} {R : α -> Prop} {a b : Sem α} (h : Tidy P R b) : Tidy P R (if false = true then a else b) := h
theorem tidy_ifNF {α : Type} {R : α -> Prop} {a b : Sem α} (h : Tidy P R a) : Tidy P R (if (!false) = true then a else b) := h
instance i_pure {α : Type} {a : α} : TC P (pure a : Sem α) := ⟨.pure trivial⟩
instance i_stuck {α : Type} {s : String} : TC P (stuck s : Sem α) := ⟨.halt rfl⟩
instance i_stuckBind {α β : Type} {s : String} {f : α -> Sem β} : TC P ((stuck s : Sem α) >>= f) := ⟨.halt rfl⟩
instance i_rpanic {α : Type} {e : RuntimeError} : TC P (runtimePanic e : Sem α) := ⟨tidy_panic⟩
instance i_unsup {α : Type} {u : Unsupported} : TC P (unsupported u : Sem α) := ⟨.halt rfl⟩
instance i_gopanic {α : Type} {v : Value} : TC P (goPanic v : Sem α) := ⟨.halt rfl⟩
instance i_tinfo {t : TypeId} : TC P (typeInfo t) := ⟨by have h := tidy_typeInfo (P := P) (R := fun _ => True) (t := t) (f := pure) fun _ => .pure trivial; simpa using h⟩
instance i_under {t : TypeId} : TC P (underlying t) := ⟨by have h := tidy_underlying (P := P) (R := fun _ => True) (t := t) (f := pure) fun _ => .pure trivial; simpa using h⟩
instance i_elem {t : TypeId} : TC P (elemOf t) := ⟨by have h := tidy_elemOf (P := P) (R := fun _ => True) (t := t) (f := pure) fun _ => .pure trivial; simpa using h⟩
instance i_env : TC P (sys .env) := ⟨.env fun _ => .pure trivial⟩
theorem t_newObj {o : Obj} (ho : lnO o) (hp : plainO o = true) : Tidy P (fun _ => True) (newObj o) := .new ho hp fun _ => .pure trivial
theorem t_setObj {r : Nat} {o : Obj} (ho : lnO o) (hp : plainO o = true) : Tidy P (fun _ => True) (setObj r o) := .setObj ho hp (.pure trivial)
theorem t_choose {q : Question} : Tidy P (fun _ => True) (choose q) := .choose fun _ => .pure trivial
theorem t_load {a : Addr} {m : Mode} : Tidy P (fun _ => True) (Go.load a m) := .load fun _ => .pure trivial
theorem t_shape {r : Nat} : Tidy P (fun _ => True) (Go.shape r) := .shape fun _ => .pure trivial
theorem t_frozen {a : Addr} : Tidy P (fun _ => True) (Go.frozen a) := .frozen fun _ => .pure trivial
theorem t_freeze {a : Addr} {n : Nat} : Tidy P (fun _ => True) (Go.freeze a n) := .freeze (.pure trivial)
theorem t_map {α β : Type} {f : α -> β} {s : Sem α} (h : Tidy P (fun _ => True) s) : Tidy P (fun _ => True) (f <$> s) := by
 rw [<- bind_pure_comp]
 exact Tidy.bind h fun _ _ => .pure trivial
theorem t_forList {α β : Type} {f : α -> β -> Sem (ForInStep β)} (h : ∀ a b, Tidy P (fun _ => True) (f a b)) : ∀ (l : List α) (b : β), Tidy P (fun _ => True) (forIn l b f)
 | [], b => by rw [List.forIn_nil]; exact .pure trivial
 | a :: l, b => by
  rw [List.forIn_cons]
  refine Tidy.bind (h a b) fun x _ => ?_
  cases x with
  | done b => exact .pure trivial
  | yield b => exact t_forList h l b
theorem t_forArray {α β : Type} {f : α -> β -> Sem (ForInStep β)} (h : ∀ a b, Tidy P (fun _ => True) (f a b)) (l : Array α) (b : β) : Tidy P (fun _ => True) (forIn l b f) := by
 rw [<- Array.forIn_toList]
 exact t_forList h _ b
theorem t_forRange {β : Type} {f : Nat -> β -> Sem (ForInStep β)} (h : ∀ a b, Tidy P (fun _ => True) (f a b)) (l : Std.Legacy.Range) (b : β) : Tidy P (fun _ => True) (forIn l b f) := by
 rw [Std.Legacy.Range.forIn_eq_forIn_range']
 exact t_forList h _ b
instance i_choose {q : Question}  : TC P (choose q) := ⟨t_choose ..⟩
instance i_load {a : Addr} {m : Mode}  : TC P (Go.load a m) := ⟨t_load ..⟩
instance i_shape {r : Nat}  : TC P (Go.shape r) := ⟨t_shape ..⟩
instance i_frozen {a : Addr}  : TC P (Go.frozen a) := ⟨t_frozen ..⟩
instance i_freeze {a : Addr} {n : Nat}  : TC P (Go.freeze a n) := ⟨t_freeze ..⟩
theorem tidy_auto {α : Type} {s : Sem α} (h : Tidy P (fun _ => True) s := by
 repeat' (first
  | (with_reducible first | exact TC.h | refine tidy_program ?_ | refine tidy_getObj ?_ fun _ _ => ?_ | refine t_newObj ?_ ?_ | refine t_setObj ?_ ?_)
  | (show lnO _; exact trivial) | (show plainO _ = true; rfl) | exact .inl ⟨_, rfl⟩ | exact .inr ⟨fun _ => rfl, fun _ => rfl⟩
  | (with_reducible first | refine tidy_mapMA (fun _ => ?_) _ | refine tidy_mapM (fun _ => ?_) _ | refine t_forArray (fun _ _ => ?_) _ _ | refine t_forRange (fun _ _ => ?_) _ _ | refine t_forList (fun _ _ => ?_) _ _ | refine t_map ?_ | refine tidy_pureBind ?_ | refine Tidy.bind (R := fun _ => True) ?_ fun _ _ => ?_ | refine tidy_ifTT ?_ | refine tidy_ifNT ?_ | refine tidy_ifFF ?_ | refine tidy_ifNF ?_)
  | split | dsimp only)) : Tidy P (fun _ => True) s := h
theorem t_asIntOf (v : Value) : Tidy P (fun _ => True) (asIntOf v) := by
 unfold asIntOf
 exact tidy_auto
instance i_asIntOf (v : Value) : TC P (asIntOf v) := ⟨t_asIntOf ..⟩
theorem t_asBool (v : Value) : Tidy P (fun _ => True) (asBool v) := by
 unfold asBool
 exact tidy_auto
instance i_asBool (v : Value) : TC P (asBool v) := ⟨t_asBool ..⟩
theorem t_asString (v : Value) : Tidy P (fun _ => True) (asString v) := by
 unfold asString
 exact tidy_auto
instance i_asString (v : Value) : TC P (asString v) := ⟨t_asString ..⟩
theorem t_asAgg (v : Value) : Tidy P (fun _ => True) (asAgg v) := by
 unfold asAgg
 exact tidy_auto
instance i_asAgg (v : Value) : TC P (asAgg v) := ⟨t_asAgg ..⟩
theorem t_asInt (v : Value) : Tidy P (fun _ => True) (asInt v) := by
 unfold asInt
 exact tidy_auto
instance i_asInt (v : Value) : TC P (asInt v) := ⟨t_asInt ..⟩
theorem t_boundsPanic {α : Type} (k : IntKind) (x y : Int) (c : BoundsCode) : Tidy P (fun _ => True) (boundsPanic (α := α) k x y c) := by
 unfold boundsPanic
 split
 ·exact Tidy.bind (R := fun _ => True) (t_map (.choose fun _ => .pure trivial)) fun _ _ => tidy_panic
 ·exact Tidy.bind (R := fun _ => True) (.pure trivial) fun _ _ => tidy_panic
instance i_boundsPanic {α : Type} (k : IntKind) (x y : Int) (c : BoundsCode)  : TC P (boundsPanic (α := α) k x y c) := ⟨t_boundsPanic ..⟩
theorem t_zeroValue (t : TypeId) : Tidy P (fun _ => True) (zeroValue t) := by
 unfold zeroValue
 exact tidy_auto
instance i_zeroValue (t : TypeId) : TC P (zeroValue t) := ⟨t_zeroValue ..⟩
theorem t_loadCells (a : Addr) (n : Nat) : Tidy P (fun _ => True) (loadCells a n) := by
 unfold loadCells
 exact tidy_auto
instance i_loadCells (a : Addr) (n : Nat) : TC P (loadCells a n) := ⟨t_loadCells ..⟩
theorem t_storeCells (a : Addr) : ∀ (vs : List Value) (i : Nat), Tidy P (fun _ => True) (storeCells a vs i)
 | [], _ => .pure trivial
 | v :: vs, i => by
  unfold storeCells
  exact Tidy.bind (R := fun _ => True) (.store (.pure trivial)) fun _ _ => t_storeCells a vs (i + 1)
instance i_storeCells (a : Addr) (vs : List Value) (i : Nat) : TC P (storeCells a vs i) := ⟨t_storeCells ..⟩
theorem t_storeVar (t : TypeId) (a : Addr) (v : Value) : Tidy P (fun _ => True) (storeVar t a v) := by
 unfold storeVar
 exact tidy_auto
instance i_storeVar (t : TypeId) (a : Addr) (v : Value) : TC P (storeVar t a v) := ⟨t_storeVar ..⟩
theorem t_newRow (e : TypeId) (c : Array Value) : Tidy P (fun _ => True) (newRow e c) := by
 unfold newRow
 exact tidy_auto
instance i_newRow (e : TypeId) (c : Array Value) : TC P (newRow e c) := ⟨t_newRow ..⟩
theorem t_newVar (e : TypeId) (c : Value) : Tidy P (fun _ => True) (newVar e c) := by
 unfold newVar
 exact tidy_auto
instance i_newVar (e : TypeId) (c : Value) : TC P (newVar e c) := ⟨t_newVar ..⟩
theorem t_part (t : TypeId) (c : Array Value) (n : Nat) : Tidy P (fun _ => True) (part t c n) := by
 unfold part
 exact tidy_auto
instance i_part (t : TypeId) (c : Array Value) (n : Nat) : TC P (part t c n) := ⟨t_part ..⟩
theorem t_viewAt (r : Nat) : Tidy P (fun _ => True) (viewAt r) := by
 unfold viewAt
 exact tidy_auto
instance i_viewAt (r : Nat) : TC P (viewAt r) := ⟨t_viewAt ..⟩
theorem t_numberAt (r : Nat) : Tidy P (fun _ => True) (numberAt r) := by
 unfold numberAt
 exact tidy_auto
instance i_numberAt (r : Nat) : TC P (numberAt r) := ⟨t_numberAt ..⟩
theorem t_noView (a : Addr) : Tidy P (fun _ => True) (noView a) := by
 unfold noView
 exact tidy_auto
instance i_noView (a : Addr) : TC P (noView a) := ⟨t_noView ..⟩
theorem t_behindNumber (a : Addr) : Tidy P (fun _ => True) (behindNumber a) := by
 unfold behindNumber
 exact tidy_auto
instance i_behindNumber (a : Addr) : TC P (behindNumber a) := ⟨t_behindNumber ..⟩
theorem t_asNumber (a : Addr) (b : Bool) : Tidy P (fun _ => True) (asNumber a b) := by
 unfold asNumber
 exact tidy_auto
instance i_asNumber (a : Addr) (b : Bool) : TC P (asNumber a b) := ⟨t_asNumber ..⟩
theorem t_stringish (a : Addr) : Tidy P (fun _ => True) (stringish a) := by
 unfold stringish
 exact tidy_auto
instance i_stringish (a : Addr) : TC P (stringish a) := ⟨t_stringish ..⟩
theorem t_markStringish (a : Addr) : Tidy P (fun _ => True) (markStringish a) := by
 unfold markStringish
 exact tidy_auto
instance i_markStringish (a : Addr) : TC P (markStringish a) := ⟨t_markStringish ..⟩
theorem t_mayBeOne (a b : Addr) : Tidy P (fun _ => True) (mayBeOne a b) := by
 unfold mayBeOne
 exact tidy_auto
instance i_mayBeOne (a b : Addr) : TC P (mayBeOne a b) := ⟨t_mayBeOne ..⟩
theorem t_sameAddr (a b : Addr) : Tidy P (fun _ => True) (sameAddr a b) := by
 unfold sameAddr
 exact tidy_auto
instance i_sameAddr (a b : Addr) : TC P (sameAddr a b) := ⟨t_sameAddr ..⟩
theorem t_samePointer (a b : Option Addr) : Tidy P (fun _ => True) (samePointer a b) := by
 unfold samePointer
 exact tidy_auto
instance i_samePointer (a b : Option Addr) : TC P (samePointer a b) := ⟨t_samePointer ..⟩
theorem t_byteOf (a : Addr) : Tidy P (fun _ => True) (byteOf a) := by
 unfold byteOf
 exact tidy_auto
instance i_byteOf (a : Addr) : TC P (byteOf a) := ⟨t_byteOf ..⟩
theorem t_partAt (a : Addr) (c b : Nat) : Tidy P (fun _ => True) (partAt a c b) := by
 unfold partAt
 exact tidy_auto
instance i_partAt (a : Addr) (c b : Nat) : TC P (partAt a c b) := ⟨t_partAt ..⟩
theorem t_fieldPlace (a : Addr) (f : Field) : Tidy P (fun _ => True) (fieldPlace a f) := by
 unfold fieldPlace
 exact tidy_auto
instance i_fieldPlace (a : Addr) (f : Field) : TC P (fieldPlace a f) := ⟨t_fieldPlace ..⟩
theorem t_typeStr (t : TypeId) : Tidy P (fun _ => True) (typeStr t) := by
 unfold typeStr
 exact tidy_auto
instance i_typeStr (t : TypeId) : TC P (typeStr t) := ⟨t_typeStr ..⟩
theorem t_sureAddr (v : Value) : Tidy P (fun _ => True) (Instr.sureAddr v) := by
 unfold Instr.sureAddr
 exact tidy_auto
instance i_sureAddr (v : Value) : TC P (Instr.sureAddr v) := ⟨t_sureAddr ..⟩
theorem t_loadAt (t : TypeId) (v : Value) : Tidy P (fun _ => True) (Instr.loadAt t v) := by
 unfold Instr.loadAt
 exact tidy_auto
theorem t_storeAt (t : TypeId) (v x : Value) : Tidy P (fun _ => True) (Instr.storeAt t v x) := by
 unfold Instr.storeAt
 exact tidy_auto
theorem t_alloc (t : TypeId) (h : Bool) (v : Value) : Tidy P (fun _ => True) (Instr.alloc t h v) := by
 unfold Instr.alloc
 exact tidy_auto
theorem t_box (t : TypeId) (v : Value) : Tidy P (fun _ => True) (Instr.box t v) := by
 unfold Instr.box
 exact tidy_auto
theorem t_build (t : TypeId) (p : Array (Nat × Value)) : Tidy P (fun _ => True) (Instr.build t p) := by
 unfold Instr.build
 exact tidy_auto
theorem t_buildSlice (t : TypeId) (n : Nat) (p : Array (Nat × Value)) : Tidy P (fun _ => True) (Instr.buildSlice t n p) := by
 unfold Instr.buildSlice
 exact tidy_auto
theorem t_extract (t : Value) (n : Nat) : Tidy P (fun _ => True) (Instr.extract t n) := by
 unfold Instr.extract
 exact tidy_auto
theorem t_field (t : TypeId) (x : Value) (n : Nat) : Tidy P (fun _ => True) (Instr.field t x n) := by
 unfold Instr.field
 exact tidy_auto
theorem t_fieldAt (t : TypeId) (x : Value) (n : Nat) : Tidy P (fun _ => True) (Instr.fieldAt t x n) := by
 unfold Instr.fieldAt
 exact tidy_auto
theorem t_index (t : TypeId) (x y : Value) : Tidy P (fun _ => True) (Instr.index t x y) := by
 unfold Instr.index
 exact tidy_auto
theorem t_indexAt (t : TypeId) (x y : Value) : Tidy P (fun _ => True) (Instr.indexAt t x y) := by
 unfold Instr.indexAt
 exact tidy_auto
end
end
section
open Go Go.Conc
set_option linter.unusedSectionVars false
set_option maxRecDepth 4000
section
variable {P : Program}
set_option maxHeartbeats 2000000 in
theorem t_equalIn  : ∀ (d : Nat) (t : TypeId) (x y : Value), Tidy P (fun _ => True) (Op.equalIn d t x y) := by
 intro d
 induction d with
 | zero => intros; unfold Op.equalIn; first | exact .halt rfl | exact .pure trivial | exact tidy_stuck
 | succ d ih =>
  intros
  unfold Op.equalIn
  repeat' (first
   | (with_reducible first | exact TC.h | exact ih .. | refine tidy_program ?_ | refine tidy_getObj ?_ fun _ _ => ?_ | refine t_newObj ?_ ?_ | refine t_setObj ?_ ?_)
   | (show lnO _; exact trivial) | (show plainO _ = true; rfl) | exact .inl ⟨_, rfl⟩ | exact .inr ⟨fun _ => rfl, fun _ => rfl⟩
   | (with_reducible first | refine tidy_mapMA (fun _ => ?_) _ | refine tidy_mapM (fun _ => ?_) _ | refine t_forArray (fun _ _ => ?_) _ _ | refine t_forRange (fun _ _ => ?_) _ _ | refine t_forList (fun _ _ => ?_) _ _ | refine t_map ?_ | refine tidy_pureBind ?_ | refine Tidy.bind (R := fun _ => True) ?_ fun _ _ => ?_ | refine tidy_ifTT ?_ | refine tidy_ifNT ?_ | refine tidy_ifFF ?_ | refine tidy_ifNF ?_)
   | split | dsimp only)
instance i_equalIn  (d : Nat) (t : TypeId) (x y : Value) : TC P (Op.equalIn d t x y) := ⟨t_equalIn ..⟩
theorem t_equal (t : TypeId) (x y : Value) : Tidy P (fun _ => True) (Op.equal t x y) := by
 unfold Op.equal
 exact tidy_auto
instance i_equal (t : TypeId) (x y : Value) : TC P (Op.equal t x y) := ⟨t_equal ..⟩
end
end
section
open Go Go.Conc
set_option linter.unusedSectionVars false
set_option maxRecDepth 4000
section
variable {P : Program}
set_option maxHeartbeats 1000000 in
theorem t_eqGuardIn  : ∀ (d : Nat) (t : TypeId) (x y : Value), Tidy P (fun _ => True) (Op.eqGuardIn d t x y) := by
 intro d
 induction d with
 | zero => intros; unfold Op.eqGuardIn; first | exact .halt rfl | exact .pure trivial | exact tidy_stuck
 | succ d ih =>
  intros
  unfold Op.eqGuardIn
  repeat' (first
   | (with_reducible first | exact TC.h | exact ih .. | refine tidy_program ?_ | refine tidy_getObj ?_ fun _ _ => ?_ | refine t_newObj ?_ ?_ | refine t_setObj ?_ ?_)
   | (show lnO _; exact trivial) | (show plainO _ = true; rfl) | exact .inl ⟨_, rfl⟩ | exact .inr ⟨fun _ => rfl, fun _ => rfl⟩
   | (with_reducible first | refine tidy_mapMA (fun _ => ?_) _ | refine tidy_mapM (fun _ => ?_) _ | refine t_forArray (fun _ _ => ?_) _ _ | refine t_forRange (fun _ _ => ?_) _ _ | refine t_forList (fun _ _ => ?_) _ _ | refine t_map ?_ | refine tidy_pureBind ?_ | refine Tidy.bind (R := fun _ => True) ?_ fun _ _ => ?_ | refine tidy_ifTT ?_ | refine tidy_ifNT ?_ | refine tidy_ifFF ?_ | refine tidy_ifNF ?_)
   | split | dsimp only)
instance i_eqGuardIn  (d : Nat) (t : TypeId) (x y : Value) : TC P (Op.eqGuardIn d t x y) := ⟨t_eqGuardIn ..⟩
set_option maxHeartbeats 1000000 in
theorem t_checkKey (e : Bool) : ∀ (n : Nat) (t : TypeId) (v : Value), Tidy P (fun _ => True) (Instr.checkKey e n t v) := by
 intro n
 induction n with
 | zero => intros; unfold Instr.checkKey; first | exact .halt rfl | exact .pure trivial | exact tidy_stuck
 | succ n ih =>
  intros
  unfold Instr.checkKey
  repeat' (first
   | (with_reducible first | exact TC.h | exact ih .. | refine tidy_program ?_ | refine tidy_getObj ?_ fun _ _ => ?_ | refine t_newObj ?_ ?_ | refine t_setObj ?_ ?_)
   | (show lnO _; exact trivial) | (show plainO _ = true; rfl) | exact .inl ⟨_, rfl⟩ | exact .inr ⟨fun _ => rfl, fun _ => rfl⟩
   | (with_reducible first | refine tidy_mapMA (fun _ => ?_) _ | refine tidy_mapM (fun _ => ?_) _ | refine t_forArray (fun _ _ => ?_) _ _ | refine t_forRange (fun _ _ => ?_) _ _ | refine t_forList (fun _ _ => ?_) _ _ | refine t_map ?_ | refine tidy_pureBind ?_ | refine Tidy.bind (R := fun _ => True) ?_ fun _ _ => ?_ | refine tidy_ifTT ?_ | refine tidy_ifNT ?_ | refine tidy_ifFF ?_ | refine tidy_ifNF ?_)
   | split | dsimp only)
instance i_checkKey (e : Bool) (n : Nat) (t : TypeId) (v : Value) : TC P (Instr.checkKey e n t v) := ⟨t_checkKey ..⟩
theorem t_findAsking (t : TypeId) (k : Value) : ∀ (l : List MapEntry) (i : Nat), Tidy P (fun _ => True) (Instr.findAsking t k l i)
 | [], _ => .pure trivial
 | e :: l, i => by
  unfold Instr.findAsking
  refine Tidy.bind (t_equal _ _ _) fun b _ => ?_
  split
  ·exact .pure trivial
  ·exact t_findAsking t k l (i + 1)
instance i_findAsking (t : TypeId) (k : Value) (l : List MapEntry) (i : Nat) : TC P (Instr.findAsking t k l i) := ⟨t_findAsking ..⟩
theorem t_findKey (t : TypeId) (k : Value) (l : List MapEntry) : Tidy P (fun _ => True) (Instr.findKey t k l) := by
 unfold Instr.findKey
 exact tidy_auto
instance i_findKey (t : TypeId) (k : Value) (l : List MapEntry) : TC P (Instr.findKey t k l) := ⟨t_findKey ..⟩
theorem t_lookup (t : TypeId) (x y : Value) (c : Bool) : Tidy P (fun _ => True) (Instr.lookup t x y c) := by
 unfold Instr.lookup
 exact tidy_auto
theorem t_keyThatStays (x y : Value) : Tidy P (fun _ => True) (Instr.keyThatStays x y) := by
 unfold Instr.keyThatStays
 exact tidy_auto
instance i_keyThatStays (x y : Value) : TC P (Instr.keyThatStays x y) := ⟨t_keyThatStays ..⟩
theorem t_mapUpdate (t : TypeId) (m k v : Value) : Tidy P (fun _ => True) (Instr.mapUpdate t m k v) := by
 unfold Instr.mapUpdate
 exact tidy_auto
end
end
section
open Go Go.Conc
set_option linter.unusedSectionVars false
set_option maxRecDepth 4000
section
variable {P : Program}
theorem t_makeMap (t : TypeId) (r : Option Value) : Tidy P (fun _ => True) (Instr.makeMap t r) := by
 unfold Instr.makeMap
 exact tidy_auto
theorem t_makeChan (t : TypeId) (r : Value) : Tidy P (fun _ => True) (Instr.makeChan t r) := by
 unfold Instr.makeChan
 exact tidy_auto
theorem t_askRoom (n : Nat) : Tidy P (fun _ => True) (askRoom n) := by
 unfold askRoom
 split
 ·exact .mark rfl (.pure trivial)
 ·exact .pure trivial
instance i_askRoom (n : Nat)  : TC P (askRoom n) := ⟨t_askRoom ..⟩
theorem t_makeSlice (t : TypeId) (l c : Value) : Tidy P (fun _ => True) (Instr.makeSlice t l c) := by
 unfold Instr.makeSlice
 exact tidy_auto
theorem t_makeInterface (t : TypeId) (x : Value) : Tidy P (fun _ => True) (Instr.makeInterface t x) := by
 unfold Instr.makeInterface
 exact tidy_auto
theorem t_makeFunc (f : Fn) (x y : Array Value) : Tidy P (fun _ => True) (Instr.makeFunc f x y) := by
 unfold Instr.makeFunc
 exact tidy_auto
theorem t_sliceBound (x : Value) (y : Nat) (c : BoundsCode) : Tidy P (fun _ => True) (Instr.sliceBound x y c) := by
 unfold Instr.sliceBound
 exact tidy_auto
instance i_sliceBound (x : Value) (y : Nat) (c : BoundsCode) : TC P (Instr.sliceBound x y c) := ⟨t_sliceBound ..⟩
theorem t_sliceBounds (s : Bool) (l c : Nat) (x y z : Option Value) : Tidy P (fun _ => True) (Instr.sliceBounds s l c x y z) := by
 unfold Instr.sliceBounds
 exact tidy_auto
instance i_sliceBounds (s : Bool) (l c : Nat) (x y z : Option Value) : TC P (Instr.sliceBounds s l c x y z) := ⟨t_sliceBounds ..⟩
theorem t_slice (t : TypeId) (x : Value) (a b c : Option Value) : Tidy P (fun _ => True) (Instr.slice t x a b c) := by
 unfold Instr.slice
 exact tidy_auto
instance i_slice (t : TypeId) (x : Value) (a b c : Option Value) : TC P (Instr.slice t x a b c) := ⟨t_slice ..⟩
theorem t_sliceAt (t : TypeId) (x : Value) (a b c : Option Value) : Tidy P (fun _ => True) (Instr.sliceAt t x a b c) := by
 unfold Instr.sliceAt
 exact tidy_auto
theorem t_arrayAt (t : TypeId) (x : Value) : Tidy P (fun _ => True) (Instr.arrayAt t x) := by
 unfold Instr.arrayAt
 exact tidy_auto
theorem t_range (t : TypeId) (x : Value) : Tidy P (fun _ => True) (Instr.range t x) := by
 unfold Instr.range
 exact tidy_auto
theorem t_next (x : Value) (b : Bool) (t : TypeId) : Tidy P (fun _ => True) (Instr.next x b t) := by
 unfold Instr.next
 exact tidy_auto
theorem t_typeAssert (x : Value) (t u : TypeId) (c : Bool) : Tidy P (fun _ => True) (Instr.typeAssert x t u c) := by
 unfold Instr.typeAssert
 exact tidy_auto
theorem t_panicnil  : Tidy P (fun _ => True) ((Instr.panicnil)) := by
 unfold Instr.panicnil
 exact tidy_auto
instance i_panicnil  : TC P ((Instr.panicnil)) := ⟨t_panicnil ..⟩
theorem t_panic (x : Value) : Tidy P (fun _ => True) (Instr.panic x) := by
 unfold Instr.panic
 exact tidy_auto
end
end
section
open Go Go.Conc
set_option linter.unusedSectionVars false
set_option maxRecDepth 4000
section
variable {P : Program}
theorem t_placeGet (t : TypeId) (x : Place) : Tidy P (fun _ => True) (Place.get t x) := by
 unfold Place.get
 exact tidy_auto
instance i_placeGet (t : TypeId) (x : Place) : TC P (Place.get t x) := ⟨t_placeGet ..⟩
theorem t_follow : ∀ (l : List FieldStep) (t : TypeId) (x : Place), Tidy P (fun _ => True) (Go.follow l t x)
 | [], _, _ => .pure trivial
 | s :: l, t, x => by
  have ih := t_follow l
  unfold Go.follow
  repeat' (first
   | (with_reducible first | exact TC.h | exact ih .. | refine tidy_program ?_ | refine tidy_getObj ?_ fun _ _ => ?_ | refine t_newObj ?_ ?_ | refine t_setObj ?_ ?_)
   | (show lnO _; exact trivial) | (show plainO _ = true; rfl) | exact .inl ⟨_, rfl⟩ | exact .inr ⟨fun _ => rfl, fun _ => rfl⟩
   | (with_reducible first | refine tidy_mapMA (fun _ => ?_) _ | refine tidy_mapM (fun _ => ?_) _ | refine t_forArray (fun _ _ => ?_) _ _ | refine t_forRange (fun _ _ => ?_) _ _ | refine t_forList (fun _ _ => ?_) _ _ | refine t_map ?_ | refine tidy_pureBind ?_ | refine Tidy.bind (R := fun _ => True) ?_ fun _ _ => ?_ | refine tidy_ifTT ?_ | refine tidy_ifNT ?_ | refine tidy_ifFF ?_ | refine tidy_ifNF ?_)
   | split | dsimp only)
instance i_follow  (l : List FieldStep) (t : TypeId) (x : Place) : TC P (Go.follow l t x) := ⟨t_follow ..⟩
theorem t_followBlind : ∀ (l : List FieldStep) (t : TypeId) (x : Option Value), Tidy P (fun _ => True) (followBlind l t x)
 | [], _, _ => .pure trivial
 | s :: l, t, x => by
  have ih := t_followBlind l
  unfold followBlind
  repeat' (first
   | (with_reducible first | exact TC.h | exact ih .. | refine tidy_program ?_ | refine tidy_getObj ?_ fun _ _ => ?_ | refine t_newObj ?_ ?_ | refine t_setObj ?_ ?_)
   | (show lnO _; exact trivial) | (show plainO _ = true; rfl) | exact .inl ⟨_, rfl⟩ | exact .inr ⟨fun _ => rfl, fun _ => rfl⟩
   | (with_reducible first | refine tidy_mapMA (fun _ => ?_) _ | refine tidy_mapM (fun _ => ?_) _ | refine t_forArray (fun _ _ => ?_) _ _ | refine t_forRange (fun _ _ => ?_) _ _ | refine t_forList (fun _ _ => ?_) _ _ | refine t_map ?_ | refine tidy_pureBind ?_ | refine Tidy.bind (R := fun _ => True) ?_ fun _ _ => ?_ | refine tidy_ifTT ?_ | refine tidy_ifNT ?_ | refine tidy_ifFF ?_ | refine tidy_ifNF ?_)
   | split | dsimp only)
instance i_followBlind  (l : List FieldStep) (t : TypeId) (x : Option Value) : TC P (followBlind l t x) := ⟨t_followBlind ..⟩
theorem t_ssaWrapNilChk (t : TypeId) (p : Value) (n : String) : Tidy P (fun _ => True) (Builtin.ssaWrapNilChk_ #[t] t #[p, strVal "", strVal n]) := by
 cases p
 case pointer o =>
  cases o with
  | some a => exact .pure trivial
  | none =>
   refine Tidy.choose fun n => ?_
   show Tidy P _ (Sem.bind _ _)
   dsimp only [Sem.bind]
   exact tidy_auto
 all_goals exact .halt rfl
instance i_ssaWrapNilChk (t : TypeId) (p : Value) (n : String)  : TC P (Builtin.ssaWrapNilChk_ #[t] t #[p, strVal "", strVal n]) := ⟨t_ssaWrapNilChk ..⟩
theorem t_receiverAt (t : TypeId) (x : Place) (p : Bool) (n : Option String) : Tidy P (fun _ => True) (receiverAt t x p n) := by
 unfold receiverAt
 exact tidy_auto
instance i_receiverAt (t : TypeId) (x : Place) (p : Bool) (n : Option String) : TC P (receiverAt t x p n) := ⟨t_receiverAt ..⟩
theorem t_receiverVia (t : TypeId) (x : Value) (p : Array FieldStep) (b : Bool) : Tidy P (fun _ => True) (receiverVia t x p b) := by
 unfold receiverVia
 exact tidy_auto
theorem t_method  : ∀ (n : Nat) (t : TypeId) (v : Value) (s : String), Tidy P (fun _ => True) (method n t v s) := by
 intro n
 induction n with
 | zero => intros; unfold method; first | exact .halt rfl | exact .pure trivial | exact tidy_stuck
 | succ n ih =>
  intros
  unfold method
  repeat' (first
   | (with_reducible first | exact TC.h | exact ih .. | refine tidy_program ?_ | refine tidy_getObj ?_ fun _ _ => ?_ | refine t_newObj ?_ ?_ | refine t_setObj ?_ ?_)
   | (show lnO _; exact trivial) | (show plainO _ = true; rfl) | exact .inl ⟨_, rfl⟩ | exact .inr ⟨fun _ => rfl, fun _ => rfl⟩
   | (with_reducible first | refine tidy_mapMA (fun _ => ?_) _ | refine tidy_mapM (fun _ => ?_) _ | refine t_forArray (fun _ _ => ?_) _ _ | refine t_forRange (fun _ _ => ?_) _ _ | refine t_forList (fun _ _ => ?_) _ _ | refine t_map ?_ | refine tidy_pureBind ?_ | refine Tidy.bind (R := fun _ => True) ?_ fun _ _ => ?_ | refine tidy_ifTT ?_ | refine tidy_ifNT ?_ | refine tidy_ifFF ?_ | refine tidy_ifNF ?_)
   | split | dsimp only)
theorem t_nilAhead  : ∀ (n : Nat) (t : TypeId) (v : Value) (s : String), Tidy P (fun _ => True) (nilAhead n t v s) := by
 intro n
 induction n with
 | zero => intros; unfold nilAhead; first | exact .halt rfl | exact .pure trivial | exact tidy_stuck
 | succ n ih =>
  intros
  unfold nilAhead
  repeat' (first
   | (with_reducible first | exact TC.h | exact ih .. | refine tidy_program ?_ | refine tidy_getObj ?_ fun _ _ => ?_ | refine t_newObj ?_ ?_ | refine t_setObj ?_ ?_)
   | (show lnO _; exact trivial) | (show plainO _ = true; rfl) | exact .inl ⟨_, rfl⟩ | exact .inr ⟨fun _ => rfl, fun _ => rfl⟩
   | (with_reducible first | refine tidy_mapMA (fun _ => ?_) _ | refine tidy_mapM (fun _ => ?_) _ | refine t_forArray (fun _ _ => ?_) _ _ | refine t_forRange (fun _ _ => ?_) _ _ | refine t_forList (fun _ _ => ?_) _ _ | refine t_map ?_ | refine tidy_pureBind ?_ | refine Tidy.bind (R := fun _ => True) ?_ fun _ _ => ?_ | refine tidy_ifTT ?_ | refine tidy_ifNT ?_ | refine tidy_ifFF ?_ | refine tidy_ifNF ?_)
   | split | dsimp only)
end
end
section
open Go Go.Conc
set_option linter.unusedSectionVars false
set_option maxRecDepth 4000
section
variable {P : Program}
theorem t_intArith (o : BinOp) (k : IntKind) (x y : Int) : Tidy P (fun _ => True) (Op.intArith o k x y) := by
 unfold Op.intArith
 exact tidy_auto
instance i_intArith (o : BinOp) (k : IntKind) (x y : Int) : TC P (Op.intArith o k x y) := ⟨t_intArith ..⟩
theorem t_intDiv (o : BinOp) (k : IntKind) (x y : Int) : Tidy P (fun _ => True) (Op.intDiv o k x y) := by
 unfold Op.intDiv
 exact tidy_auto
instance i_intDiv (o : BinOp) (k : IntKind) (x y : Int) : TC P (Op.intDiv o k x y) := ⟨t_intDiv ..⟩
theorem t_intBits (o : BinOp) (k : IntKind) (x y : Int) : Tidy P (fun _ => True) (Op.intBits o k x y) := by
 unfold Op.intBits
 exact tidy_auto
instance i_intBits (o : BinOp) (k : IntKind) (x y : Int) : TC P (Op.intBits o k x y) := ⟨t_intBits ..⟩
theorem t_intCmp (o : BinOp) (x y : Int) : Tidy P (fun _ => True) (Op.intCmp o x y) := by
 unfold Op.intCmp
 exact tidy_auto
instance i_intCmp (o : BinOp) (x y : Int) : TC P (Op.intCmp o x y) := ⟨t_intCmp ..⟩
theorem t_shift (o : BinOp) (k : IntKind) (x : Int) (j : IntKind) (y : Int) : Tidy P (fun _ => True) (Op.shift o k x j y) := by
 unfold Op.shift
 exact tidy_auto
instance i_shift (o : BinOp) (k : IntKind) (x : Int) (j : IntKind) (y : Int) : TC P (Op.shift o k x j y) := ⟨t_shift ..⟩
theorem t_stringOp (o : BinOp) (x y : ByteArray) : Tidy P (fun _ => True) (Op.stringOp o x y) := by
 unfold Op.stringOp
 exact tidy_auto
instance i_stringOp (o : BinOp) (x y : ByteArray) : TC P (Op.stringOp o x y) := ⟨t_stringOp ..⟩
theorem t_floatArith (o : BinOp) (k : FloatKind) (x y : Nat) : Tidy P (fun _ => True) (Op.floatArith o k x y) := by
 unfold Op.floatArith
 exact tidy_auto
instance i_floatArith (o : BinOp) (k : FloatKind) (x y : Nat) : TC P (Op.floatArith o k x y) := ⟨t_floatArith ..⟩
theorem t_floatCmp (o : BinOp) (k : FloatKind) (x y : Nat) : Tidy P (fun _ => True) (Op.floatCmp o k x y) := by
 unfold Op.floatCmp
 exact tidy_auto
instance i_floatCmp (o : BinOp) (k : FloatKind) (x y : Nat) : TC P (Op.floatCmp o k x y) := ⟨t_floatCmp ..⟩
theorem t_unsafeAdd (a : Array TypeId) (t : TypeId) (x y : Value) : Tidy P (fun _ => True) (Builtin.unsafeAdd_ a t #[x, y]) := by
 cases x
 case pointer ptr =>
  show Tidy P _ (asInt y >>= _)
  exact tidy_auto
 all_goals exact .halt rfl
instance i_unsafeAdd (a : Array TypeId) (t : TypeId) (x y : Value)  : TC P (Builtin.unsafeAdd_ a t #[x, y]) := ⟨t_unsafeAdd ..⟩
theorem t_movedNumber (t : TypeId) (x y : Value) : Tidy P (fun _ => True) (movedNumber t x y) := by
 unfold movedNumber
 exact tidy_auto
instance i_movedNumber (t : TypeId) (x y : Value) : TC P (movedNumber t x y) := ⟨t_movedNumber ..⟩
theorem t_movedPointer (t : TypeId) (x y : Value) : Tidy P (fun _ => True) (movedPointer t x y) := by
 unfold movedPointer
 exact tidy_auto
instance i_movedPointer (t : TypeId) (x y : Value) : TC P (movedPointer t x y) := ⟨t_movedPointer ..⟩
theorem t_twoPlaces (x y : Addr) : Tidy P (fun _ => True) (Op.twoPlaces x y) := by
 unfold Op.twoPlaces
 exact tidy_auto
instance i_twoPlaces (x y : Addr) : TC P (Op.twoPlaces x y) := ⟨t_twoPlaces ..⟩
theorem t_addrSub (k : IntKind) (x y : Addr) : Tidy P (fun _ => True) (Op.addrSub k x y) := by
 unfold Op.addrSub
 exact tidy_auto
instance i_addrSub (k : IntKind) (x y : Addr) : TC P (Op.addrSub k x y) := ⟨t_addrSub ..⟩
theorem t_addrCmp (o : BinOp) (x y : Addr) : Tidy P (fun _ => True) (Op.addrCmp o x y) := by
 unfold Op.addrCmp
 exact tidy_auto
instance i_addrCmp (o : BinOp) (x y : Addr) : TC P (Op.addrCmp o x y) := ⟨t_addrCmp ..⟩
theorem t_addrMod (k : IntKind) (x : Addr) (n : Int) : Tidy P (fun _ => True) (Op.addrMod k x n) := by
 unfold Op.addrMod
 exact tidy_auto
instance i_addrMod (k : IntKind) (x : Addr) (n : Int) : TC P (Op.addrMod k x n) := ⟨t_addrMod ..⟩
theorem t_eqGuard (o : BinOp) (t : TypeId) (x y : Operand) (a b : Value) : Tidy P (fun _ => True) (eqGuard o t x y a b) := by
 unfold eqGuard
 exact tidy_auto
theorem t_unary (o : UnOp) (x : Value) : Tidy P (fun _ => True) (Op.unary o x) := by
 unfold Op.unary
 exact tidy_auto
end
end
section
open Go Go.Conc
set_option linter.unusedSectionVars false
set_option maxRecDepth 4000
section
variable {P : Program}
theorem t_max2 (x y : Value) : Tidy P (fun _ => True) (Builtin.max2 x y) := by
 unfold Builtin.max2
 exact tidy_auto
theorem t_min2 (x y : Value) : Tidy P (fun _ => True) (Builtin.min2 x y) := by
 unfold Builtin.min2
 exact tidy_auto
theorem t_foldl {α β : Type} {f : β -> α -> Sem β} (h : ∀ b a, Tidy P (fun _ => True) (f b a)) : ∀ (l : List α) (b : β), Tidy P (fun _ => True) (l.foldlM f b)
 | [], b => .pure trivial
 | a :: l, b => by
  rw [List.foldlM_cons]
  exact Tidy.bind (h b a) fun x _ => t_foldl h l x
theorem t_max (a : Array TypeId) (t : TypeId) (x : Array Value) : Tidy P (fun _ => True) (Builtin.max_ a t x) := by
 unfold Builtin.max_
 split
 ·exact tidy_stuck
 ·exact t_foldl (fun _ _ => t_max2 _ _) _ _
theorem t_min (a : Array TypeId) (t : TypeId) (x : Array Value) : Tidy P (fun _ => True) (Builtin.min_ a t x) := by
 unfold Builtin.min_
 split
 ·exact tidy_stuck
 ·exact t_foldl (fun _ _ => t_min2 _ _) _ _
theorem t_cap (a : Array TypeId) (t : TypeId) (x : Array Value) : Tidy P (fun _ => True) (Builtin.cap_ a t x) := by
 unfold Builtin.cap_
 exact tidy_auto
theorem t_len (a : Array TypeId) (t : TypeId) (x : Array Value) : Tidy P (fun _ => True) (Builtin.len_ a t x) := by
 unfold Builtin.len_
 exact tidy_auto
theorem t_lenOf (x : Value) : Tidy P (fun _ => True) (Builtin.lenOf x) := by
 unfold Builtin.lenOf
 exact tidy_auto
instance i_lenOf (x : Value) : TC P (Builtin.lenOf x) := ⟨t_lenOf ..⟩
theorem t_firstCells (s n : Nat) (x : Value) : Tidy P (fun _ => True) (Builtin.firstCells s n x) := by
 unfold Builtin.firstCells
 exact tidy_auto
instance i_firstCells (s n : Nat) (x : Value) : TC P (Builtin.firstCells s n x) := ⟨t_firstCells ..⟩
theorem t_copy (a : Array TypeId) (t : TypeId) (x : Array Value) : Tidy P (fun _ => True) (Builtin.copy_ a t x) := by
 unfold Builtin.copy_
 exact tidy_auto
theorem t_delete (a : Array TypeId) (t : TypeId) (x : Array Value) : Tidy P (fun _ => True) (Builtin.delete_ a t x) := by
 unfold Builtin.delete_
 exact tidy_auto
theorem t_holdsCells (a : Addr) (n : Nat) : Tidy P (fun _ => True) (Builtin.holdsCells a n) := by
 unfold Builtin.holdsCells
 exact tidy_auto
instance i_holdsCells (a : Addr) (n : Nat) : TC P (Builtin.holdsCells a n) := ⟨t_holdsCells ..⟩
theorem t_mayShare (a b c : Nat) (o : Option Addr) (x : Value) : Tidy P (fun _ => True) (Builtin.mayShare a b c o x) := by
 unfold Builtin.mayShare
 exact tidy_auto
instance i_mayShare (a b c : Nat) (o : Option Addr) (x : Value) : TC P (Builtin.mayShare a b c o x) := ⟨t_mayShare ..⟩
theorem t_noRoom : Tidy P (fun _ => True) (mark .noRoom) := .mark rfl (.pure trivial)
instance i_noRoom   : TC P (mark .noRoom) := ⟨t_noRoom ..⟩
theorem t_variablesAt (a : Addr) (u : TypeId) (n : Nat) : Tidy P (fun _ => True) (variablesAt a u n) := by
 unfold variablesAt
 exact tidy_auto
instance i_variablesAt (a : Addr) (u : TypeId) (n : Nat) : TC P (variablesAt a u n) := ⟨t_variablesAt ..⟩
theorem t_loadBytes : ∀ (n : Nat) (a : Addr) (acc : ByteArray), Tidy P (fun _ => True) (loadBytes a acc n)
 | 0, _, _ => .pure trivial
 | n + 1, a, acc => by
  have ih := t_loadBytes n
  unfold loadBytes
  repeat' (first
   | (with_reducible first | exact TC.h | exact ih .. | refine tidy_program ?_ | refine tidy_getObj ?_ fun _ _ => ?_ | refine t_newObj ?_ ?_ | refine t_setObj ?_ ?_)
   | (show lnO _; exact trivial) | (show plainO _ = true; rfl) | exact .inl ⟨_, rfl⟩ | exact .inr ⟨fun _ => rfl, fun _ => rfl⟩
   | (with_reducible first | refine tidy_mapMA (fun _ => ?_) _ | refine tidy_mapM (fun _ => ?_) _ | refine t_forArray (fun _ _ => ?_) _ _ | refine t_forRange (fun _ _ => ?_) _ _ | refine t_forList (fun _ _ => ?_) _ _ | refine t_map ?_ | refine tidy_pureBind ?_ | refine Tidy.bind (R := fun _ => True) ?_ fun _ _ => ?_ | refine tidy_ifTT ?_ | refine tidy_ifNT ?_ | refine tidy_ifFF ?_ | refine tidy_ifNF ?_)
   | split | dsimp only)
instance i_loadBytes  (n : Nat) (a : Addr) (acc : ByteArray) : TC P (loadBytes a acc n) := ⟨t_loadBytes ..⟩
theorem t_close (a : Array TypeId) (t : TypeId) (x : Array Value) : Tidy P (fun _ => True) (Builtin.close_ a t x) := by
 rcases x with ⟨_ | ⟨x, _ | ⟨y, l⟩⟩⟩
 ·exact .halt rfl
 ·cases x
  case chan o =>
   cases o with
   | none => exact (tidy_panic : Tidy P (fun _ => True) (runtimePanic (.plain "close of nil channel") : Sem Value))
   | some r =>
    show Tidy P _ (getObj r >>= _)
    exact tidy_auto
  all_goals exact .halt rfl
 ·exact .halt rfl
theorem t_unsafeSliceData (a : Array TypeId) (t : TypeId) (x : Array Value) : Tidy P (fun _ => True) (Builtin.unsafeSliceData_ a t x) := by
 rcases x with ⟨_ | ⟨x, _ | ⟨y, l⟩⟩⟩
 ·exact .halt rfl
 ·cases x
  case slice o n c =>
   cases o with
   | none => exact .pure trivial
   | some a =>
    show Tidy P _ (if c ≠ 0 then _ else _)
    exact tidy_auto
  all_goals exact .halt rfl
 ·exact .halt rfl
theorem t_unsafeString (a : Array TypeId) (t : TypeId) (x : Array Value) : Tidy P (fun _ => True) (Builtin.unsafeString_ a t x) := by
 rcases x with ⟨_ | ⟨x, _ | ⟨y, _ | ⟨z, l⟩⟩⟩⟩
 ·exact .halt rfl
 ·exact .halt rfl
 ·cases x
  case pointer o =>
   show Tidy P _ (asInt y >>= _)
   exact tidy_auto
  all_goals exact .halt rfl
 ·exact .halt rfl
end
end
section
open Go Go.Conc
set_option linter.unusedSectionVars false
set_option maxRecDepth 4000
section
variable {P : Program}
set_option maxHeartbeats 4000000 in
theorem t_append (a : Array TypeId) (t : TypeId) (x : Array Value) : Tidy P (fun _ => True) (Builtin.append_ a t x) := by
 unfold Builtin.append_
 exact tidy_auto
end
end
section
open Go Go.Conc
set_option linter.unusedSectionVars false
set_option maxRecDepth 4000
section
variable {P : Program}
theorem t_floatToFloat (s : FloatKind) (b : Nat) (d : FloatKind) : Tidy P (fun _ => True) (Conv.floatToFloat s b d) := by
 unfold Conv.floatToFloat
 exact tidy_auto
instance i_floatToFloat (s : FloatKind) (b : Nat) (d : FloatKind) : TC P (Conv.floatToFloat s b d) := ⟨t_floatToFloat ..⟩
theorem t_carith (o : BinOp) (k : FloatKind) (x y : Nat) : Tidy P (fun _ => True) (Op.Complex.arith o k x y) := by
 unfold Op.Complex.arith
 exact tidy_auto
instance i_carith (o : BinOp) (k : FloatKind) (x y : Nat) : TC P (Op.Complex.arith o k x y) := ⟨t_carith ..⟩
theorem t_ccmp (o : BinOp) (k : FloatKind) (x y : Nat) : Tidy P (fun _ => True) (Op.Complex.cmp o k x y) := by
 unfold Op.Complex.cmp
 exact tidy_auto
instance i_ccmp (o : BinOp) (k : FloatKind) (x y : Nat) : TC P (Op.Complex.cmp o k x y) := ⟨t_ccmp ..⟩
theorem t_cconv (s : FloatKind) (x : Nat) (d : FloatKind) : Tidy P (fun _ => True) (Op.Complex.conv s x d) := by
 unfold Op.Complex.conv
 exact tidy_auto
instance i_cconv (s : FloatKind) (x : Nat) (d : FloatKind) : TC P (Op.Complex.conv s x d) := ⟨t_cconv ..⟩
theorem t_cproduct (a b c d : Nat) : Tidy P (fun _ => True) (Op.Complex.product a b c d) := by
 unfold Op.Complex.product Op.Complex.mul Op.Complex.sub Op.Complex.add
 exact tidy_auto
instance i_cproduct (a b c d : Nat) : TC P (Op.Complex.product a b c d) := ⟨t_cproduct ..⟩
theorem t_ccorrected (s a b c d : Nat) : Tidy P (fun _ => True) (Op.Complex.corrected s a b c d) := by
 unfold Op.Complex.corrected Op.Complex.mul Op.Complex.sub Op.Complex.add
 exact tidy_auto
instance i_ccorrected (s a b c d : Nat) : TC P (Op.Complex.corrected s a b c d) := ⟨t_ccorrected ..⟩
theorem t_cquotient (a b c d : Nat) : Tidy P (fun _ => True) (Op.Complex.quotient a b c d) := by
 unfold Op.Complex.quotient Op.Complex.mul Op.Complex.sub Op.Complex.add Op.Complex.quo
 exact tidy_auto
instance i_cquotient (a b c d : Nat) : TC P (Op.Complex.quotient a b c d) := ⟨t_cquotient ..⟩
theorem t_complexOp (o : BinOp) (k : FloatKind) (a b c d : Nat) : Tidy P (fun _ => True) (Op.complexOp o k a b c d) := by
 unfold Op.complexOp
 exact tidy_auto
instance i_complexOp (o : BinOp) (k : FloatKind) (a b c d : Nat) : TC P (Op.complexOp o k a b c d) := ⟨t_complexOp ..⟩
set_option maxHeartbeats 2000000 in
theorem t_binOp (o : BinOp) (t : TypeId) (x y : Value) : Tidy P (fun _ => True) (binOp o t x y) := by
 unfold binOp
 exact tidy_auto
end
end
section
open Go Go.Conc
set_option linter.unusedSectionVars false
set_option maxRecDepth 4000
section
variable {P : Program}
theorem t_intToInt (k : IntKind) (n : Int) : Tidy P (fun _ => True) (Conv.intToInt k n) := by
 unfold Conv.intToInt
 exact tidy_auto
instance i_intToInt (k : IntKind) (n : Int) : TC P (Conv.intToInt k n) := ⟨t_intToInt ..⟩
theorem t_intToFloat (k : FloatKind) (n : Int) : Tidy P (fun _ => True) (Conv.intToFloat k n) := by
 unfold Conv.intToFloat
 exact tidy_auto
instance i_intToFloat (k : FloatKind) (n : Int) : TC P (Conv.intToFloat k n) := ⟨t_intToFloat ..⟩
theorem t_floatToInt (s : FloatKind) (b : Nat) (k : IntKind) : Tidy P (fun _ => True) (Conv.floatToInt s b k) := by
 unfold Conv.floatToInt
 exact tidy_auto
instance i_floatToInt (s : FloatKind) (b : Nat) (k : IntKind) : TC P (Conv.floatToInt s b k) := ⟨t_floatToInt ..⟩
theorem t_complexToComplex (s : FloatKind) (b c : Nat) (k : FloatKind) : Tidy P (fun _ => True) (Conv.complexToComplex s b c k) := by
 unfold Conv.complexToComplex
 exact tidy_auto
instance i_complexToComplex (s : FloatKind) (b c : Nat) (k : FloatKind) : TC P (Conv.complexToComplex s b c k) := ⟨t_complexToComplex ..⟩
theorem t_intToString (n : Int) : Tidy P (fun _ => True) (Conv.intToString n) := by
 unfold Conv.intToString
 exact tidy_auto
instance i_intToString (n : Int) : TC P (Conv.intToString n) := ⟨t_intToString ..⟩
theorem t_stringToBytes (t : TypeId) (s : ByteArray) : Tidy P (fun _ => True) (Conv.stringToBytes t s) := by
 unfold Conv.stringToBytes
 exact tidy_auto
instance i_stringToBytes (t : TypeId) (s : ByteArray) : TC P (Conv.stringToBytes t s) := ⟨t_stringToBytes ..⟩
theorem t_stringToRunes (t : TypeId) (s : ByteArray) : Tidy P (fun _ => True) (Conv.stringToRunes t s) := by
 unfold Conv.stringToRunes
 exact tidy_auto
instance i_stringToRunes (t : TypeId) (s : ByteArray) : TC P (Conv.stringToRunes t s) := ⟨t_stringToRunes ..⟩
theorem t_bytesToString (x : Value) : Tidy P (fun _ => True) (Conv.bytesToString x) := by
 unfold Conv.bytesToString
 exact tidy_auto
instance i_bytesToString (x : Value) : TC P (Conv.bytesToString x) := ⟨t_bytesToString ..⟩
theorem t_runesToString (x : Value) : Tidy P (fun _ => True) (Conv.runesToString x) := by
 unfold Conv.runesToString
 exact tidy_auto
instance i_runesToString (x : Value) : TC P (Conv.runesToString x) := ⟨t_runesToString ..⟩
theorem t_cellsIn (r : Nat) : Tidy P (fun _ => True) (cellsIn r) := by
 unfold cellsIn
 exact tidy_auto
instance i_cellsIn (r : Nat) : TC P (cellsIn r) := ⟨t_cellsIn ..⟩
theorem t_seenAt (a : Addr) : Tidy P (fun _ => True) (Conv.seenAt a) := by
 unfold Conv.seenAt
 exact tidy_auto
instance i_seenAt (a : Addr) : TC P (Conv.seenAt a) := ⟨t_seenAt ..⟩
theorem t_unsafePointer (s d : TypeId) (x : Value) : Tidy P (fun _ => True) (Conv.unsafePointer s d x) := by
 unfold Conv.unsafePointer
 exact tidy_auto
instance i_unsafePointer (s d : TypeId) (x : Value) : TC P (Conv.unsafePointer s d x) := ⟨t_unsafePointer ..⟩
set_option maxHeartbeats 2000000 in
theorem t_convert (s d : TypeId) (x : Value) : Tidy P (fun _ => True) (convert s d x) := by
 unfold convert
 exact tidy_auto
end
end
end Go.Proofs.YtdobjciaikofdaaGreatDoor
