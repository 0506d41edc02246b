/- Part 3 of 39 of what the proof of this law needs. Put together by a program out of the texts: SimC SimD SimE SimF SimG. -/
import Derived.Test.YtdobjciaikofdaaGreatDoorTopShakeAll02
namespace Go.Proofs.YtdobjciaikofdaaGreatDoor
section
open Go
abbrev VR : BRel -> Value -> Value -> Prop := fun ρ v v' => VRel ρ v v'
abbrev AR : BRel -> Addr -> Addr -> Prop := fun ρ a a' => ARel ρ a a'
abbrev RR : BRel -> Array Value -> Array Value -> Prop := fun ρ c c' => RowRel ρ c c'
abbrev UR : BRel -> Unit -> Unit -> Prop := fun _ _ _ => True
def zeroFlat (P : Program) (t : TypeId) : Bool := match (P.info? t).bind (·.zero) with | some z => flatV z | none => true
structure ProgOk (P : Program) : Prop where
 flat : ∀ t, flatT.contains t = true -> zeroFlat P t = true
 int : ∀ t, intT.contains t = true -> ∃ i k, P.info? t = some i /\ i.desc = .int k /\ P.underlying t = some (.int k)
 slice : ∀ t, sliceT.contains t = true -> ∃ e, P.underlying t = some (.slice e) /\ zeroFlat P e = true
 array : ∀ t, arrayT.contains t = true -> ∃ n e, P.underlying t = some (.array n e)
 struct : ∀ t, structT.contains t = true -> ∃ fs, P.underlying t = some (.struct fs) /\ ∀ (k : Nat) (f : Field), fs[k]? = some f -> ∃ i, P.info? f.type = some i /\ i.size ≠ 0
 funcs : ∀ f, niceF.contains f = true -> ∃ fn b, P.funcs[f]? = some fn /\ (fn.name == "runtime.NumGoroutine") = false /\ fn.body = some b /\ okC b = true
 globs : P.globals.size = nGlob
theorem Plain.dead {α β : Type} {P : Program} {s : Sem α} {f : α -> Sem β} (h : Plain P s) (hf : ∀ a, Dead P (f a)) : Dead P (s.bind f) := by
 induction h with
 | pure a => exact hf a
 | choose _ ih => exact .choose ih
 | program _ ih => exact .program ih
 | stop h hh => exact .stop h hh
theorem plain_typeInfo (P : Program) (t : TypeId) : Plain P (typeInfo t) := by
 unfold typeInfo program
 refine .program ?_
 show Plain P (match P.info? t with | some i => pure i | none => stuck "no such type")
 split
 ·exact .pure _
 ·exact .halt _
theorem plain_underlying (P : Program) (t : TypeId) : Plain P (underlying t) := by
 unfold underlying program
 refine .program ?_
 show Plain P (match P.underlying t with | some i => pure i | none => stuck "no such type")
 split
 ·exact .pure _
 ·exact .halt _
theorem plain_elemOf (P : Program) (t : TypeId) : Plain P (elemOf t) := by
 unfold elemOf
 refine Plain.bind (plain_underlying P t) fun d => ?_
 cases d <;> first | exact .pure _ | exact .halt _
theorem plain_program (P : Program) : Plain P program := .program (.pure P)
theorem dead_panic {α : Type} (P : Program) (e : RuntimeError) : Dead P (runtimePanic e : Sem α) := by
 unfold runtimePanic
 refine Plain.dead (plain_program P) fun p => ?_
 cases e with
 | typeAssertion i c a m => exact Plain.dead (plain_elemOf P _) fun _ => .new fun _ => .halt _
 | panicNil => exact Plain.dead (plain_elemOf P _) fun _ => .new fun _ => .halt _
 | _ => exact .halt _
theorem dead_bounds {α : Type} (P : Program) (k : IntKind) (x y : Int) (c : BoundsCode) : Dead P (boundsPanic k x y c : Sem α) := by
 unfold boundsPanic
 dsimp only
 split
 ·exact .choose fun n => dead_panic P (.bounds (IntKind.i64.wrap x) y (n == 1) c)
 ·exact dead_panic P (.bounds (IntKind.i64.wrap x) y (k != .u64) c)
theorem sim_panic {α : Type} {P : Program} {R : BRel -> α -> α -> Prop} {ρ : BRel} {e : RuntimeError} {s : Sem α} : Sim P R ρ (runtimePanic e) s := .dead (dead_panic P e)
theorem sim_bounds {α : Type} {P : Program} {R : BRel -> α -> α -> Prop} {ρ : BRel} {k : IntKind} {x y : Int} {c : BoundsCode} {s : Sem α} : Sim P R ρ (boundsPanic k x y c) s := .dead (dead_bounds P k x y c)
theorem plain_sizeOf (P : Program) (t : TypeId) : Plain P (sizeOf t) := Plain.bind (plain_typeInfo P t) fun _ => .pure _
theorem plain_isAgg (P : Program) (t : TypeId) : Plain P (isAgg t) := Plain.bind (plain_underlying P t) fun d => by cases d <;> exact .pure _
theorem sim_sizeOf {P : Program} {t : TypeId} {ρ : BRel} : Sim P EqR ρ (sizeOf t) (sizeOf t) := (plain_sizeOf P t).sim ρ
theorem sim_isAgg {P : Program} {t : TypeId} {ρ : BRel} : Sim P EqR ρ (isAgg t) (isAgg t) := (plain_isAgg P t).sim ρ
theorem sim_typeInfo {P : Program} {t : TypeId} {ρ : BRel} : Sim P EqR ρ (typeInfo t) (typeInfo t) := (plain_typeInfo P t).sim ρ
theorem sim_underlying {P : Program} {t : TypeId} {d : TypeDesc} (hd : P.underlying t = some d) {ρ : BRel} : Sim P (fun _ x y => x = d /\ y = d) ρ (underlying t) (underlying t) := by
 unfold underlying program
 refine .program ?_
 show Sim P _ ρ (match P.underlying t with | some i => pure i | none => stuck "no such type") (match P.underlying t with | some i => pure i | none => stuck "no such type")
 rw [hd]
 exact .pure ⟨rfl, rfl⟩
theorem sim_und {P : Program} {t : TypeId} {ρ : BRel} : Sim P EqR ρ (underlying t) (underlying t) := (plain_underlying P t).sim ρ
theorem sim_info {P : Program} {t : TypeId} {ρ : BRel} : Sim P (fun _ x y => x = y /\ P.info? t = some x) ρ (typeInfo t) (typeInfo t) := by
 unfold typeInfo program
 refine .program ?_
 show Sim P _ ρ (match P.info? t with | some i => pure i | none => stuck "no such type") (match P.info? t with | some i => pure i | none => stuck "no such type")
 split
 ·rename_i i hi
  exact .pure ⟨rfl, hi⟩
 ·exact .halt
theorem flatS_rel {v : Value} (h : flatS v = true) (ρ : BRel) : VRel ρ v v := by
 match v, h with
 | .bool b, _ => exact .bool b
 | .int k n, _ => exact .int k n
 | .string s, _ => exact .string s
 | .pointer none, _ => exact .pnil
 | .slice none l c, _ => exact .snil l c
 | .nilFunc, _ => exact .nilFunc
 | .tuple vs, h =>
  have h0 : vs = #[] := by simpa [flatS] using h
  subst h0
  exact .tuple _ _ rfl fun i h1 => by simp at h1
theorem flatV_rel {v : Value} (h : flatV v = true) (ρ : BRel) : VRel ρ v v := by
 by_cases ha : ∃ cs, v = .agg cs
 ·obtain ⟨cs, rfl⟩ := ha
  have h0 : cs.all flatS = true := h
  rw [Array.all_eq_true] at h0
  exact .agg _ _ rfl fun i h1 _ => flatS_rel (h0 i h1) ρ
 ·refine flatS_rel ?_ ρ
  cases v <;> first | exact h | exact absurd ⟨_, rfl⟩ ha
theorem sim_zero {P : Program} {t : TypeId} (h : zeroFlat P t = true) {ρ : BRel} : Sim P VR ρ (zeroValue t) (zeroValue t) := by
 unfold zeroValue
 refine Sim.bind sim_info ?_
 rintro σ i i' _ ⟨rfl, hi⟩
 show Sim P VR σ (match i.zero with | some v => pure v | none => unsupported (.resourceLimit "a value of more than 2^22 cells")) (match i.zero with | some v => pure v | none => unsupported (.resourceLimit "a value of more than 2^22 cells"))
 split
 ·rename_i z hz
  refine .pure (flatV_rel ?_ σ)
  unfold zeroFlat at h
  rw [hi, Option.bind_some, hz] at h
  exact h
 ·exact .halt
theorem RowRel.nil (ρ : BRel) : RowRel ρ #[] #[] := ⟨rfl, fun i h1 => by simp at h1⟩
theorem RowRel.push {ρ : BRel} {c c' : Array Value} (h : RowRel ρ c c') {v v' : Value} (hv : VRel ρ v v') : RowRel ρ (c.push v) (c'.push v') := by
 refine ⟨by simp [h.1], fun i h1 h2 => ?_⟩
 rw [Array.getElem_push, Array.getElem_push]
 by_cases hi : i < c.size
 ·have hi' : i < c'.size := by rw [<- h.1]; exact hi
  rw [dif_pos hi, dif_pos hi']
  exact h.2 i hi hi'
 ·have hi' : ¬ i < c'.size := by rw [<- h.1]; exact hi
  rw [dif_neg hi, dif_neg hi']
  exact hv
theorem RowRel.get {ρ : BRel} {c c' : Array Value} (h : RowRel ρ c c') {i : Nat} {v : Value} (hv : c[i]? = some v) : ∃ v', c'[i]? = some v' /\ VRel ρ v v' := by
 obtain ⟨hlt, rfl⟩ := Array.getElem?_eq_some_iff.1 hv
 have hlt' := hlt
 rw [h.1] at hlt'
 exact ⟨_, Array.getElem?_eq_getElem hlt', h.2 _ hlt hlt'⟩
theorem RowRel.none {ρ : BRel} {c c' : Array Value} (h : RowRel ρ c c') {i : Nat} (hv : c[i]? = none) : c'[i]? = none := by
 rw [Array.getElem?_eq_none_iff] at hv ⊢
 rw [<- h.1]
 exact hv
theorem RowRel.append {ρ : BRel} {c c' d d' : Array Value} (h : RowRel ρ c c') (h2 : RowRel ρ d d') : RowRel ρ (c ++ d) (c' ++ d') := by
 refine ⟨by simp [h.1, h2.1], fun i h3 h4 => ?_⟩
 rw [Array.getElem_append, Array.getElem_append]
 by_cases hi : i < c.size
 ·have hi' : i < c'.size := by rw [<- h.1]; exact hi
  rw [dif_pos hi, dif_pos hi']
  exact h.2 i hi hi'
 ·have hi' : ¬ i < c'.size := by rw [<- h.1]; exact hi
  rw [dif_neg hi, dif_neg hi']
  have e : c'.size = c.size := h.1.symm
  simp only [e]
  exact h2.2 _ _ _
theorem RowRel.extract {ρ : BRel} {c c' : Array Value} (h : RowRel ρ c c') (i j : Nat) : RowRel ρ (c.extract i j) (c'.extract i j) := by
 refine ⟨by simp [h.1], fun k h1 h2 => ?_⟩
 simp only [Array.getElem_extract]
 exact h.2 _ _ _
theorem RowRel.of_map {α : Type} {ρ : BRel} (xs : Array α) (f g : α -> Value) (h : ∀ x ∈ xs, VRel ρ (f x) (g x)) : RowRel ρ (xs.map f) (xs.map g) := by
 refine ⟨by simp, fun i h1 h2 => ?_⟩
 rw [Array.getElem_map, Array.getElem_map]
 exact h _ (Array.getElem_mem _)
theorem RowRel.one {ρ : BRel} {v v' : Value} (h : VRel ρ v v') : RowRel ρ #[v] #[v'] := by
 have := (RowRel.nil ρ).push h
 exact this
theorem VRel.cells {ρ : BRel} {v v' : Value} (h : VRel ρ v v') : RowRel ρ v.cells v'.cells := by
 by_cases hs : soloV v = true
 ·have hs' : soloV v' = true := by rw [h.solo]; exact hs
  have e1 : v.cells = #[v] := by cases v <;> first | rfl | (simp [soloV] at hs)
  have e2 : v'.cells = #[v'] := by cases v' <;> first | rfl | (simp [soloV] at hs')
  rw [e1, e2]
  exact RowRel.one h
 ·cases h with
  | agg cs cs' hc h => exact ⟨hc, h⟩
  | tuple cs cs' hc h => exact RowRel.one (.tuple cs cs' hc h)
  | _ => exact absurd rfl hs
theorem VRel.default (ρ : BRel) : VRel ρ (default : Value) (default : Value) := flatV_rel rfl ρ
theorem RowRel.bang {ρ : BRel} {c c' : Array Value} (h : RowRel ρ c c') (i : Nat) : VRel ρ c[i]! c'[i]! := by
 rw [getElem!_def, getElem!_def]
 rcases e : c[i]? with _ | v
 ·rw [h.none e]
  exact VRel.default ρ
 ·obtain ⟨v', e', hv⟩ := h.get e
  rw [e']
  exact hv
inductive LRel (ρ : BRel) : List Value -> List Value -> Prop
 | nil : LRel ρ [] []
 | cons {v v' : Value} {l l' : List Value} (h : VRel ρ v v') (t : LRel ρ l l') : LRel ρ (v :: l) (v' :: l')
theorem LRel.of_get {ρ : BRel} : ∀ {l l' : List Value}, l.length = l'.length -> (∀ (i : Nat) (h1 : i < l.length) (h2 : i < l'.length), VRel ρ l[i] l'[i]) -> LRel ρ l l'
 | [], [], _, _ => .nil
 | [], _ :: _, h, _ => by simp at h
 | _ :: _, [], h, _ => by simp at h
 | v :: l, v' :: l', h, hg => .cons (hg 0 (by simp) (by simp)) (LRel.of_get (by simpa using h) fun i h1 h2 => hg (i + 1) (by simpa using h1) (by simpa using h2))
theorem RowRel.list {ρ : BRel} {c c' : Array Value} (h : RowRel ρ c c') : LRel ρ c.toList c'.toList :=
 LRel.of_get (by simpa using h.1) fun i h1 h2 => by simpa using h.2 i (by simpa using h1) (by simpa using h2)
theorem LRel.mono {ρ σ : BRel} (hl : BLe ρ σ) {l l' : List Value} (h : LRel ρ l l') : LRel σ l l' := by
 induction h with
 | nil => exact .nil
 | cons h _ ih => exact .cons (h.mono hl) ih
theorem sim_load {P : Program} {ρ : BRel} {a a' : Addr} (ha : ARel ρ a a') : Sim P VR ρ (load a) (load a') := .load ha fun _ _ h => .pure h
theorem sim_loadCellsFrom {P : Program} {ρ : BRel} {a a' : Addr} (ha : ARel ρ a a') : ∀ (n i : Nat) (acc acc' : Array Value), RowRel ρ acc acc' -> Sim P RR ρ (loadCellsFrom a i n acc) (loadCellsFrom a' i n acc')
 | 0, _, _, _, h => .pure h
 | n + 1, i, _, _, h => .load (ha.add i) fun _ _ hv => sim_loadCellsFrom ha n (i + 1) _ _ (h.push hv)
theorem sim_loadCells {P : Program} {ρ : BRel} {a a' : Addr} (ha : ARel ρ a a') (n : Nat) : Sim P RR ρ (loadCells a n) (loadCells a' n) := sim_loadCellsFrom ha n 0 _ _ (RowRel.nil ρ)
theorem sim_storeCells {P : Program} {ρ : BRel} {a a' : Addr} (ha : ARel ρ a a') : ∀ (vs vs' : List Value) (i : Nat), LRel ρ vs vs' -> Sim P UR ρ (storeCells a vs i) (storeCells a' vs' i)
 | _, _, _, .nil => .pure trivial
 | _, _, i, .cons hv h => .store (ha.add i) hv (sim_storeCells ha _ _ (i + 1) h)
theorem sim_loadVar {P : Program} {ρ : BRel} {a a' : Addr} (ha : ARel ρ a a') (t : TypeId) : Sim P VR ρ (loadVar t a) (loadVar t a') := by
 unfold loadVar
 refine Sim.bind sim_isAgg ?_
 rintro σ b _ hl rfl
 cases b
 ·exact sim_load (ha.mono hl)
 ·refine Sim.bind sim_sizeOf ?_
  rintro τ n _ hl2 rfl
  refine Sim.bind (sim_loadCells ((ha.mono hl).mono hl2) n) ?_
  intro υ c c' _ hc
  exact .pure (.agg _ _ hc.1 hc.2)
theorem sim_storeVar {P : Program} {ρ : BRel} {a a' : Addr} (ha : ARel ρ a a') (t : TypeId) {v v' : Value} (hv : VRel ρ v v') : Sim P UR ρ (storeVar t a v) (storeVar t a' v') := by
 unfold storeVar
 refine Sim.bind sim_sizeOf ?_
 rintro σ n _ hl rfl
 have hc := (hv.mono hl).cells
 rw [<- hc.1]
 by_cases hn : v.cells.size ≠ n
 ·rw [if_pos hn]; exact .halt
 ·rw [if_neg hn, if_neg hn]
  exact sim_storeCells (ha.mono hl) _ _ 0 hc.list
theorem sim_newRow {P : Program} {ρ : BRel} (t : TypeId) {c c' : Array Value} (hc : RowRel ρ c c') : Sim P AR ρ (newRow t c) (newRow t c') :=
 .new (.cells hc t _ _) (fun _ _ _ _ h => by cases h; exact ⟨rfl, rfl⟩) fun _ _ _ _ hr => .pure (.mk hr 0 none)
theorem sim_newVar {P : Program} {ρ : BRel} (t : TypeId) {v v' : Value} (hv : VRel ρ v v') : Sim P AR ρ (newVar t v) (newVar t v') := sim_newRow t hv.cells
theorem sim_asIntOf {P : Program} {ρ : BRel} {v v' : Value} (hv : VRel ρ v v') : Sim P EqR ρ (asIntOf v) (asIntOf v') := by
 cases hv <;> first | exact .pure rfl | exact .halt
theorem sim_asInt {P : Program} {ρ : BRel} {v v' : Value} (hv : VRel ρ v v') : Sim P EqR ρ (asInt v) (asInt v') := by
 refine Sim.bind (sim_asIntOf hv) ?_
 rintro σ x _ _ rfl
 exact .pure rfl
theorem sim_asBool {P : Program} {ρ : BRel} {v v' : Value} (hv : VRel ρ v v') : Sim P EqR ρ (asBool v) (asBool v') := by
 cases hv <;> first | exact .pure rfl | exact .halt
theorem sim_sureAddr {P : Program} {ρ : BRel} {v v' : Value} (hv : VRel ρ v v') : Sim P AR ρ (Instr.sureAddr v) (Instr.sureAddr v') := by
 cases hv with
 | ptr h => exact .pure h
 | _ => exact .halt
theorem sim_asAddr {P : Program} {ρ : BRel} {v v' : Value} (hv : VRel ρ v v') : Sim P AR ρ (asAddr v) (asAddr v') := by
 cases hv with
 | ptr h => exact .pure h
 | pnil => exact .dead (dead_panic P .nilDeref)
 | _ => exact .halt
theorem sim_part {P : Program} {ρ : BRel} (t : TypeId) {c c' : Array Value} (hc : RowRel ρ c c') (off : Nat) : Sim P VR ρ (part t c off) (part t c' off) := by
 unfold part
 refine Sim.bind sim_isAgg ?_
 rintro σ b _ hl rfl
 cases b
 ·show Sim P VR σ (match c[off]? with | some v => pure v | none => stuck "part: no such cell") (match c'[off]? with | some v => pure v | none => stuck "part: no such cell")
  rcases e : c[off]? with _ | v
  ·exact .halt
  ·obtain ⟨v', e', hv⟩ := hc.get e
   rw [e']
   exact .pure (hv.mono hl)
 ·refine Sim.bind sim_sizeOf ?_
  rintro τ n _ hl2 rfl
  have := ((hc.mono hl).mono hl2).extract off (off + n)
  exact .pure (.agg _ _ this.1 this.2)
end
section
open Go
theorem sim_with {α : Type} {P : Program} {R : BRel -> α -> α -> Prop} {ρ : BRel} {f f' : Program -> Sem α} (h : Sim P R ρ (f P) (f' P)) : Sim P R ρ (program >>= f) (program >>= f') := .program h
theorem sim_shape {P : Program} {ρ : BRel} {b b' : Nat} (hb : ρ b b') : Sim P EqR ρ (shape b) (shape b') := .shape hb fun _ => .pure rfl
abbrev NumR : BRel -> Option (Addr × Bool) -> Option (Addr × Bool) -> Prop := fun σ x x' => (x = none /\ x' = none) \/ ∃ a a' l, x = some (a, l) /\ x' = some (a', l) /\ ARel σ a a'
theorem sim_numberAt {P : Program} {ρ : BRel} {b b' : Nat} (hb : ρ b b') : Sim P NumR ρ (numberAt b) (numberAt b') := by
 refine .shape hb fun x => ?_
 cases x with
 | some x => exact .pure (.inl ⟨rfl, rfl⟩)
 | none =>
  refine .getObj hb fun o o' ho => ?_
  cases ho with
  | number h l => exact .pure (.inr ⟨_, _, l, rfl, rfl, h⟩)
  | _ => exact .pure (.inl ⟨rfl, rfl⟩)
theorem ARel.block {ρ : BRel} {a a' : Addr} (h : ARel ρ a a') : ρ a.block a'.block := by cases h with | mk hb o s => exact hb
theorem sim_behind {P : Program} {ρ : BRel} {a a' : Addr} (ha : ARel ρ a a') : Sim P (fun σ x x' => ARel σ x.1 x'.1 /\ x.2 = x'.2) ρ (behindNumber a) (behindNumber a') := by
 refine Sim.bind (sim_numberAt ha.block) ?_
 rintro σ x x' hl (⟨rfl, rfl⟩ | ⟨b, b', l, rfl, rfl, hb⟩)
 ·exact .pure ⟨ha.mono hl, rfl⟩
 ·exact .pure ⟨hb, rfl⟩
theorem sim_viewAt {P : Program} {ρ : BRel} {b b' : Nat} (hb : ρ b b') : Sim P (fun _ x x' => x = none /\ x' = none) ρ (viewAt b) (viewAt b') := by
 refine .shape hb fun x => ?_
 cases x with
 | some x => exact .pure ⟨rfl, rfl⟩
 | none =>
  refine .getObj hb fun o o' ho => ?_
  cases ho <;> exact .pure ⟨rfl, rfl⟩
theorem sim_noView {P : Program} {ρ : BRel} {a a' : Addr} (ha : ARel ρ a a') : Sim P UR ρ (noView a) (noView a') := by
 refine Sim.bind (sim_viewAt ha.block) ?_
 rintro σ x x' hl ⟨rfl, rfl⟩
 exact .pure trivial
theorem sim_byteOf {P : Program} {ρ : BRel} {a a' : Addr} (ha : ARel ρ a a') : Sim P EqR ρ (byteOf a) (byteOf a') := by
 have hb := ha.block
 have hnv := sim_noView (P := P) ha
 cases ha with | mk _ o s =>
 cases s with
 | some s => exact .pure rfl
 | none =>
  refine sim_with ?_
  refine Sim.bind hnv ?_
  rintro σ _ _ hl _
  refine Sim.bind (sim_shape (hl.1 _ _ hb)) ?_
  rintro σ x _ hl rfl
  rcases x with _ | ⟨e, n⟩
  ·exact .halt
  ·show Sim P EqR σ (if P.cellsOf e = 0 then pure 0 else _) (if P.cellsOf e = 0 then pure 0 else _)
   split
   ·exact .pure rfl
   ·dsimp only
    rcases byteOfCell P P.depth e (o % P.cellsOf e) with _ | c
    ·exact .halt
    ·exact .pure rfl
abbrev PtrR : BRel -> Value -> Value -> Prop := fun σ v v' => ∃ a a', v = .pointer (some a) /\ v' = .pointer (some a') /\ ARel σ a a'
theorem sim_unsafeAdd {P : Program} {ρ : BRel} {ts : Array TypeId} {t : TypeId} {x x' y y' : Value} (hx : VRel ρ x x') (hy : VRel ρ y y') : Sim P PtrR ρ (Builtin.unsafeAdd_ ts t #[x, y]) (Builtin.unsafeAdd_ ts t #[x', y']) := by
 cases hx with
 | pnil =>
  refine Sim.bind (sim_asInt hy) ?_
  rintro σ n _ hl rfl
  dsimp only
  split
  ·exact .halt
  ·split
   ·exact .halt
   ·exact .halt
 | ptr ha =>
  refine Sim.bind (sim_asInt hy) ?_
  rintro σ n _ hl rfl
  dsimp only
  split
  ·refine Sim.bind (sim_viewAt (hl.1 _ _ ha.block)) ?_
   rintro τ z z' hl2 ⟨rfl, rfl⟩
   exact .pure ⟨_, _, rfl, rfl, (ha.mono hl).mono hl2⟩
  ·split
   ·exact .halt
   ·refine Sim.bind (sim_shape (hl.1 _ _ ha.block)) ?_
    rintro τ z _ hl2 rfl
    rcases z with _ | ⟨e, c⟩
    ·exact .halt
    ·refine sim_with ?_
     have hm := (ha.mono hl).mono hl2
     cases hm with | @mk b b' hb o s =>
     dsimp only
     generalize cellAtBytes _ _ e _ o n = q
     rcases q with _ | off
     ·exact .halt
     ·exact .pure ⟨_, _, rfl, rfl, .mk hb off s⟩
 | _ => exact .halt
theorem sim_asNumber {P : Program} {ρ : BRel} {a a' : Addr} (ha : ARel ρ a a') (l : Bool) : Sim P VR ρ (asNumber a l) (asNumber a' l) :=
 .new (.number ha l) (fun _ _ _ _ h => by cases h) fun _ _ _ _ hr => .pure (.ptr (.mk hr 0 none))
theorem sim_movedNumber {P : Program} {ρ : BRel} {t : TypeId} {k : IntKind} (ht : P.underlying t = some (.int k)) {x x' y y' : Value} (hx : VRel ρ x x') (hy : VRel ρ y y') : Sim P VR ρ (movedNumber t x y) (movedNumber t x' y') := by
 refine Sim.bind (sim_underlying ht) ?_
 rintro σ d d' hl ⟨rfl, rfl⟩
 dsimp only
 have hx2 := hx.mono hl
 have hy2 := hy.mono hl
 have key := sim_unsafeAdd (P := P) (ts := #[]) (t := t) hx2 hy2
 cases hx2 with
 | ptr ha =>
  refine Sim.bind (sim_behind ha) ?_
  rintro τ ⟨b, l⟩ ⟨b', l'⟩ hl2 ⟨hb, e⟩
  dsimp only at hb e ⊢
  subst e
  refine Sim.bind (sim_unsafeAdd (VRel.ptr hb) (hy2.mono hl2)) ?_
  rintro υ v v' hl3 ⟨c, c', rfl, rfl, hc⟩
  exact sim_asNumber hc l
 | pnil =>
  refine key.mono ?_
  rintro τ _ _ _ ⟨c, c', rfl, rfl, hc⟩
  exact .ptr hc
 | idle v h => exact .halt
 | _ => exact .halt
end
section
open Go
theorem sim_twoPlaces {P : Program} (OK : ProgOk P) {ρ : BRel} (F : Fine ρ) {a a' b b' : Addr} (ha : ARel ρ a a') (hb : ARel ρ b b') : Sim P EqR ρ (Op.twoPlaces a b) (Op.twoPlaces a' b') := by
 refine sim_with ?_
 dsimp only
 rw [OK.globs]
 have h1 := ha.block
 have h2 := hb.block
 by_cases hc : (a.block != b.block || decide (a.block ≥ nGlob)) = true
 ·rw [if_pos hc]; exact .halt
 ·rw [if_neg hc, if_neg]
  ·refine Sim.bind (sim_byteOf ha) ?_
   rintro σ n _ hl rfl
   refine Sim.bind (sim_byteOf (hb.mono hl)) ?_
   rintro τ m _ hl2 rfl
   exact .pure rfl
  ·intro hc'
   apply hc
   simp only [Bool.or_eq_true, bne_iff_ne, ne_eq, decide_eq_true_eq] at hc hc' ⊢
   rcases hc' with h | h
   ·exact .inl fun e => h (F.left _ _ _ h1 (e ▸ h2))
   ·refine .inr ?_
    rcases Nat.lt_or_ge a.block nGlob with h3 | h3
    ·have := F.low _ _ h1 h3; omega
    ·exact h3
theorem sim_addrSub {P : Program} (OK : ProgOk P) {ρ : BRel} (F : Fine ρ) {k : IntKind} {a a' b b' : Addr} (ha : ARel ρ a a') (hb : ARel ρ b b') : Sim P VR ρ (Op.addrSub k a b) (Op.addrSub k a' b') := by
 refine Sim.bind (sim_twoPlaces OK F ha hb) ?_
 rintro σ ⟨x, y⟩ _ _ rfl
 exact .pure (.int _ _)
theorem sim_addrCmp {P : Program} (OK : ProgOk P) {ρ : BRel} (F : Fine ρ) {op : BinOp} {a a' b b' : Addr} (ha : ARel ρ a a') (hb : ARel ρ b b') : Sim P VR ρ (Op.addrCmp op a b) (Op.addrCmp op a' b') := by
 refine Sim.bind (sim_twoPlaces OK F ha hb) ?_
 rintro σ ⟨x, y⟩ _ _ rfl
 dsimp only
 cases op <;> first | exact .pure (.bool _) | exact .halt
theorem sim_addrMod {P : Program} {ρ : BRel} {k : IntKind} {a a' : Addr} (ha : ARel ρ a a') (n : Int) : Sim P VR ρ (Op.addrMod k a n) (Op.addrMod k a' n) := by
 refine Sim.bind (sim_shape ha.block) ?_
 rintro σ x _ hl rfl
 rcases x with _ | ⟨e, c⟩
 ·exact .halt
 ·refine Sim.bind sim_typeInfo ?_
  rintro τ i _ hl2 rfl
  dsimp only
  split
  ·exact .halt
  ·refine Sim.bind (sim_byteOf ((ha.mono hl).mono hl2)) ?_
   rintro υ m _ _ rfl
   exact .pure (.int _ _)
theorem sim_equal_int {P : Program} (OK : ProgOk P) {ρ : BRel} (F : Fine ρ) {t : TypeId} (hn : intT.contains t = true) {x x' y y' : Value} (hx : VRel ρ x x') (hy : VRel ρ y y') : Sim P EqR ρ (Op.equal t x y) (Op.equal t x' y') := by
 obtain ⟨i, k, hi, hid, ht⟩ := OK.int t hn
 unfold Op.equal Op.maxDepth
 rw [show (10000 : Nat) = 9999 + 1 from rfl, Op.equalIn, Op.equalIn]
 refine Sim.bind (sim_underlying ht) ?_
 rintro σ d d' hl ⟨rfl, rfl⟩
 have F2 := hl.2 F
 have hx2 := hx.mono hl
 have hy2 := hy.mono hl
 clear hx hy
 cases hx2 <;> cases hy2 <;> first | exact .halt | exact .pure rfl | skip
 case int.int k1 n1 k2 n2 =>
  dsimp only
  split
  ·exact .pure rfl
  ·exact .halt
 case int.ptr k1 n1 a a' ha =>
  rcases n1 with (_ | n1) | n1
  ·exact .pure rfl
  ·exact .halt
  ·exact .halt
 case ptr.int a a' ha k1 n1 =>
  rcases n1 with (_ | n1) | n1
  ·exact .pure rfl
  ·exact .halt
  ·exact .halt
 case ptr.ptr a a' ha b b' hb =>
  refine Sim.bind (sim_behind ha) ?_
  rintro τ ⟨c, l⟩ ⟨c', l'⟩ hl2 ⟨hc, _⟩
  refine Sim.bind (sim_behind (hb.mono hl2)) ?_
  rintro υ ⟨d, m⟩ ⟨d', m'⟩ hl3 ⟨hd, _⟩
  refine sim_with ?_
  have F3 := hl3.2 (hl2.2 F2)
  dsimp only at hc hd ⊢
  have hcb := hl3.1 _ _ hc.block
  have hdb := hd.block
  rw [OK.globs]
  by_cases hif : (c.block == d.block && decide (c.block < nGlob)) = true
  ·have hif' : (c'.block == d'.block && decide (c'.block < nGlob)) = true := by
    simp only [Bool.and_eq_true, beq_iff_eq, decide_eq_true_eq] at hif ⊢
    obtain ⟨h1, h2⟩ := hif
    exact ⟨F3.left _ _ _ hcb (h1 ▸ hdb), by rw [F3.low _ _ hcb h2]; exact h2⟩
   rw [if_pos hif, if_pos hif']
   refine Sim.bind (sim_byteOf (hc.mono hl3)) ?_
   rintro ω n _ hl4 rfl
   refine Sim.bind (sim_byteOf (hd.mono hl4)) ?_
   rintro ω n _ hl4 rfl
   exact .pure rfl
  ·rw [if_neg hif]
   refine .dead ?_
   unfold typeInfo
   refine .program ?_
   show Dead P (Sem.bind (match P.info? t with | some i => pure i | none => stuck "no such type") _)
   rw [hi]
   show Dead P (match i.desc with | TypeDesc.named "sync.copyChecker" _ => _ | _ => _)
   rw [hid]
   exact .halt _
end
section
open Go
theorem dead_und {α : Type} {P : Program} {t : TypeId} {d : TypeDesc} (ht : P.underlying t = some d) {f : TypeDesc -> Sem α} (h : Dead P (f d)) : Dead P (underlying t >>= f) := by
 unfold underlying
 refine .program ?_
 show Dead P (Sem.bind (match P.underlying t with | some i => pure i | none => stuck "no such type") f)
 rw [ht]
 exact h
theorem dead_equalL {P : Program} {t : TypeId} {k : IntKind} (ht : P.underlying t = some (.int k)) (y : Value) : Dead P (Op.equal t idle y) := by
 unfold Op.equal Op.maxDepth
 rw [show (10000 : Nat) = 9999 + 1 from rfl, Op.equalIn]
 refine dead_und ht ?_
 rcases y with _ | _ | _ | _ | _ | p | _ | _ | _ | _ | _ | _ | _ | _ | _ <;> first | exact .halt _ | skip
theorem dead_equalR {P : Program} {t : TypeId} {k : IntKind} (ht : P.underlying t = some (.int k)) (x : Value) : Dead P (Op.equal t x idle) := by
 unfold Op.equal Op.maxDepth
 rw [show (10000 : Nat) = 9999 + 1 from rfl, Op.equalIn]
 refine dead_und ht ?_
 rcases x with _ | _ | _ | _ | _ | (_ | p) | _ | _ | _ | _ | _ | _ | _ | _ | _ <;> first | exact .halt _ | skip
theorem dead_binL {P : Program} {t : TypeId} {k : IntKind} (ht : P.underlying t = some (.int k)) (op : BinOp) (y : Value) : Dead P (binOp op t idle y) := by
 cases op <;> (rcases y with _ | _ | _ | _ | _ | (_ | p) | _ | _ | _ | _ | _ | _ | _ | _ | _ <;> first | exact .halt _ | exact (dead_equalL ht _).bind _)
theorem dead_binR {P : Program} {t : TypeId} {k : IntKind} (ht : P.underlying t = some (.int k)) (op : BinOp) (x : Value) : Dead P (binOp op t x idle) := by
 cases op <;> (rcases x with _ | _ | _ | _ | _ | (_ | p) | _ | _ | _ | _ | _ | _ | _ | _ | _ <;> first | exact .halt _ | exact (dead_equalR ht _).bind _)
theorem sim_shift {P : Program} {ρ : BRel} {op : BinOp} {k yk : IntKind} {a b : Int} : Sim P VR ρ (Op.shift op k a yk b) (Op.shift op k a yk b) := by
 unfold Op.shift
 split
 ·exact sim_panic
 ·cases op <;> first | exact .pure (.int _ _) | exact .halt
theorem sim_intArith {P : Program} {ρ : BRel} {op : BinOp} {k : IntKind} {a b : Int} : Sim P VR ρ (Op.intArith op k a b) (Op.intArith op k a b) := by
 cases op <;> first | exact .pure (.int _ _) | exact .halt
theorem sim_intDiv {P : Program} {ρ : BRel} {op : BinOp} {k : IntKind} {a b : Int} : Sim P VR ρ (Op.intDiv op k a b) (Op.intDiv op k a b) := by
 unfold Op.intDiv
 split
 ·exact sim_panic
 ·cases op <;> first | exact .pure (.int _ _) | exact .halt
theorem sim_intBits {P : Program} {ρ : BRel} {op : BinOp} {k : IntKind} {a b : Int} : Sim P VR ρ (Op.intBits op k a b) (Op.intBits op k a b) := by
 cases op <;> first | exact .pure (.int _ _) | exact .halt
theorem sim_intCmp {P : Program} {ρ : BRel} {op : BinOp} {a b : Int} : Sim P VR ρ (Op.intCmp op a b) (Op.intCmp op a b) := by
 cases op <;> first | exact .pure (.bool _) | exact .halt
theorem sim_stringOp {P : Program} {ρ : BRel} {op : BinOp} {a b : ByteArray} : Sim P VR ρ (Op.stringOp op a b) (Op.stringOp op a b) := by
 unfold Op.stringOp
 dsimp only
 cases op <;> first | exact .pure (.bool _) | exact .halt | (dsimp only; split <;> first | exact .halt | exact .pure (.string _))
theorem sim_binInt {P : Program} {ρ : BRel} {op : BinOp} {t : TypeId} {k k' : IntKind} {a b : Int} : Sim P VR ρ (binOp op t (.int k a) (.int k' b)) (binOp op t (.int k a) (.int k' b)) := by
 by_cases hk : k = k'
 ·subst hk
  cases op <;> (simp only [binOp, ne_eq, not_true_eq_false, if_false]; first | exact sim_shift | exact sim_intArith | exact sim_intDiv | exact sim_intBits | exact sim_intCmp)
 ·cases op <;> (simp only [binOp, ne_eq, hk, not_false_eq_true, if_true]; first | exact sim_shift | exact .halt)
theorem sim_binString {P : Program} {ρ : BRel} {op : BinOp} {t : TypeId} {a b : ByteArray} : Sim P VR ρ (binOp op t (.string a) (.string b)) (binOp op t (.string a) (.string b)) := by
 cases op <;> (simp only [binOp]; exact sim_stringOp)
theorem sim_binOp {P : Program} (OK : ProgOk P) {ρ : BRel} (F : Fine ρ) {op : BinOp} {t : TypeId} (hn : intT.contains t = true) {x x' y y' : Value} (hx : VRel ρ x x') (hy : VRel ρ y y') : Sim P VR ρ (binOp op t x y) (binOp op t x' y') := by
 obtain ⟨i, k, hi, hid, ht⟩ := OK.int t hn
 have heq : Sim P VR ρ (do pure (.bool (<- Op.equal t x y))) (do pure (.bool (<- Op.equal t x' y'))) := Sim.bind (sim_equal_int OK F hn hx hy) (by rintro σ b _ _ rfl; exact .pure (.bool b))
 have hne : Sim P VR ρ (do pure (.bool (!(<- Op.equal t x y)))) (do pure (.bool (!(<- Op.equal t x' y')))) := Sim.bind (sim_equal_int OK F hn hx hy) (by rintro σ b _ _ rfl; exact .pure (.bool _))
 by_cases h1 : ∃ v, x = idle /\ v = x'
 ·obtain ⟨_, rfl, _⟩ := h1
  exact .dead (dead_binL ht op y)
 by_cases h2 : y = idle
 ·subst h2
  exact .dead (dead_binR ht op x)
 by_cases he : op = .eql
 ·subst he
  cases hx <;> cases hy <;> first | exact heq | exact sim_binInt | exact sim_binString | exact absurd ⟨_, rfl, rfl⟩ h1 | exact absurd rfl h2
 by_cases hne' : op = .neq
 ·subst hne'
  cases hx <;> cases hy <;> first | exact hne | exact sim_binInt | exact sim_binString | exact absurd ⟨_, rfl, rfl⟩ h1 | exact absurd rfl h2
 clear heq hne
 cases hx <;> cases hy <;> first
  | exact sim_binInt
  | exact sim_binString
  | exact absurd ⟨_, rfl, rfl⟩ h1
  | exact absurd rfl h2
  | (clear h1 h2; cases op <;> first | exact .halt | exact absurd rfl he | exact absurd rfl hne' | skip)
 case neg.int.pnil.add => exact sim_movedNumber ht .pnil (.int _ _)
 case neg.int.ptr.add h => exact sim_movedNumber ht (.ptr h) (.int _ _)
 case neg.pnil.int.sub => exact sim_movedNumber ht .pnil (.int _ _)
 case neg.ptr.int.sub h _ _ => exact sim_movedNumber ht (.ptr h) (.int _ _)
 case neg.pnil.int.add =>
  refine Sim.bind (sim_underlying ht) ?_
  rintro σ _ _ _ ⟨rfl, rfl⟩
  exact sim_movedNumber ht .pnil (.int _ _)
 case neg.ptr.int.add h _ _ =>
  refine Sim.bind (sim_underlying ht) ?_
  rintro σ _ _ hl ⟨rfl, rfl⟩
  exact sim_movedNumber ht (.ptr (h.mono hl)) (.int _ _)
 case neg.int.ptr.and h =>
  refine Sim.bind (sim_behind h) ?_
  rintro σ ⟨c, l⟩ ⟨c', l'⟩ _ ⟨hc, _⟩
  exact sim_addrMod hc _
 case neg.ptr.int.and h _ _ =>
  refine Sim.bind (sim_behind h) ?_
  rintro σ ⟨c, l⟩ ⟨c', l'⟩ _ ⟨hc, _⟩
  exact sim_addrMod hc _
 case neg.ptr.int.rem h _ _ =>
  refine Sim.bind (sim_behind h) ?_
  rintro σ ⟨c, l⟩ ⟨c', l'⟩ _ ⟨hc, _⟩
  exact sim_addrMod hc _
 case neg.ptr.ptr.sub h _ _ h' =>
  refine Sim.bind (sim_behind h) ?_
  rintro σ ⟨c, l⟩ ⟨c', l'⟩ hl ⟨hc, _⟩
  refine Sim.bind (sim_behind (h'.mono hl)) ?_
  rintro τ ⟨d, m⟩ ⟨d', m'⟩ hl2 ⟨hd, _⟩
  exact sim_addrSub OK (hl2.2 (hl.2 F)) (hc.mono hl2) hd
 all_goals
  rename_i h _ _ h'
  refine Sim.bind (sim_behind h) ?_
  rintro σ ⟨c, l⟩ ⟨c', l'⟩ hl ⟨hc, _⟩
  refine Sim.bind (sim_behind (h'.mono hl)) ?_
  rintro τ ⟨d, m⟩ ⟨d', m'⟩ hl2 ⟨hd, _⟩
  exact sim_addrCmp OK (hl2.2 (hl.2 F)) (hc.mono hl2) hd
end
section
open Go
theorem sim_unary {P : Program} {ρ : BRel} (op : UnOp) {x x' : Value} (hx : VRel ρ x x') : Sim P VR ρ (Op.unary op x) (Op.unary op x') := by
 cases hx <;> cases op <;> first | exact .halt | exact .pure (.int _ _) | exact .pure (.bool _)
theorem sim_convert {P : Program} (OK : ProgOk P) {ρ : BRel} {s d : TypeId} (hs : intT.contains s = true) (hd : intT.contains d = true) {x x' : Value} (hx : VRel ρ x x') : Sim P VR ρ (convert s d x) (convert s d x') := by
 obtain ⟨i, k, _, _, h1⟩ := OK.int s hs
 obtain ⟨i', k', _, _, h2⟩ := OK.int d hd
 refine Sim.bind (sim_underlying h1) ?_
 rintro σ _ _ hl ⟨rfl, rfl⟩
 refine Sim.bind (sim_underlying h2) ?_
 rintro τ _ _ hl2 ⟨rfl, rfl⟩
 cases hx <;> first | exact .pure (.int _ _) | exact .halt
theorem sim_alloc {P : Program} (OK : ProgOk P) {ρ : BRel} {t : TypeId} (ht : flatT.contains t = true) : Sim P VR ρ (Instr.alloc t true (.tuple #[])) (Instr.alloc t true (.tuple #[])) := by
 refine Sim.bind (sim_zero (OK.flat t ht)) ?_
 intro σ z z' hl hz
 refine Sim.bind (sim_newVar t hz) ?_
 intro τ a a' _ ha
 exact .pure (.ptr ha)
theorem sim_box {P : Program} {ρ : BRel} {t : TypeId} {x x' : Value} (hx : VRel ρ x x') : Sim P VR ρ (Instr.box t x) (Instr.box t x') := by
 refine Sim.bind (sim_newVar t hx) ?_
 intro τ a a' _ ha
 exact .pure (.ptr ha)
inductive PRel (ρ : BRel) : List (Nat × Value) -> List (Nat × Value) -> Prop
 | nil : PRel ρ [] []
 | cons {i : Nat} {v v' : Value} {l l' : List (Nat × Value)} (h : VRel ρ v v') (t : PRel ρ l l') : PRel ρ ((i, v) :: l) ((i, v') :: l')
theorem PRel.mono {ρ σ : BRel} (hl : BLe ρ σ) {l l' : List (Nat × Value)} (h : PRel ρ l l') : PRel σ l l' := by
 induction h with
 | nil => exact .nil
 | cons h _ ih => exact .cons (h.mono hl) ih
theorem PRel.map {ρ : BRel} {ev ev' : Operand -> Value} : ∀ (ps : List (Nat × Operand)), (∀ q ∈ ps, VRel ρ (ev q.2) (ev' q.2)) -> PRel ρ (ps.map fun q => (q.1, ev q.2)) (ps.map fun q => (q.1, ev' q.2))
 | [], _ => .nil
 | q :: ps, h => .cons (h q (by simp)) (PRel.map ps fun r hr => h r (by simp [hr]))
theorem laid_rel {ρ : BRel} (off : Nat) : ∀ (l l' : List Value) (k : Nat) (cs cs' : Array Value), LRel ρ l l' -> RowRel ρ cs cs' ->
  RowRel ρ ((l.zipIdx k).foldl (fun cs (q : Value × Nat) => cs.setIfInBounds (off + q.2) q.1) cs) ((l'.zipIdx k).foldl (fun cs (q : Value × Nat) => cs.setIfInBounds (off + q.2) q.1) cs')
 | _, _, _, _, _, .nil, h => h
 | _, _, k, cs, cs', .cons hv ht, h => by
  simp only [List.zipIdx_cons, List.foldl_cons]
  exact laid_rel off _ _ (k + 1) _ _ ht (h.set _ hv)
theorem fill_rel {ρ : BRel} (place : Nat -> Option (Nat × Nat)) : ∀ (l l' : List (Nat × Value)) (cs cs' : Array Value), PRel ρ l l' -> RowRel ρ cs cs' ->
  (Instr.fill place cs l = none /\ Instr.fill place cs' l' = none) \/ ∃ r r', Instr.fill place cs l = some r /\ Instr.fill place cs' l' = some r' /\ RowRel ρ r r'
 | _, _, cs, cs', .nil, h => .inr ⟨cs, cs', rfl, rfl, h⟩
 | _, _, cs, cs', .cons (i := i) hv ht, h => by
  unfold Instr.fill
  rcases place i with _ | ⟨off, size⟩
  ·exact .inl ⟨rfl, rfl⟩
  ·dsimp only
   have hc := hv.cells
   rw [<- hc.1, <- h.1]
   split
   ·exact .inl ⟨rfl, rfl⟩
   ·refine fill_rel place _ _ _ _ ht ?_
    rw [<- Array.foldl_toList, <- Array.foldl_toList, Array.toList_zipIdx, Array.toList_zipIdx]
    exact laid_rel off _ _ 0 _ _ hc.list h
theorem sim_build {P : Program} (OK : ProgOk P) {ρ : BRel} {t : TypeId} (ht : arrayT.contains t = true) (hf : flatT.contains t = true) {ps ps' : Array (Nat × Value)} (hp : PRel ρ ps.toList ps'.toList) : Sim P VR ρ (Instr.build t ps) (Instr.build t ps') := by
 obtain ⟨n, e, hu⟩ := OK.array t ht
 refine Sim.bind (sim_zero (OK.flat t hf)) ?_
 intro σ z z' hl hz
 refine Sim.bind (sim_underlying hu) ?_
 rintro τ _ _ hl2 ⟨rfl, rfl⟩
 refine Sim.bind sim_sizeOf ?_
 rintro υ size _ hl3 rfl
 rcases fill_rel (fun i => some (i * size, size)) _ _ _ _ (((hp.mono hl).mono hl2).mono hl3) ((hz.mono hl2).mono hl3).cells with ⟨h1, h2⟩ | ⟨r, r', h1, h2, h3⟩
 ·rw [h1]
  exact .halt
 ·rw [h1, h2]
  exact .pure (.agg _ _ h3.1 h3.2)
theorem sim_buildSlice {P : Program} (OK : ProgOk P) {ρ : BRel} {t : TypeId} (ht : sliceT.contains t = true) (len : Nat) {ps ps' : Array (Nat × Value)} (hp : PRel ρ ps.toList ps'.toList) : Sim P VR ρ (Instr.buildSlice t len ps) (Instr.buildSlice t len ps') := by
 obtain ⟨e, hu, hz⟩ := OK.slice t ht
 refine Sim.bind (sim_underlying hu) ?_
 rintro σ _ _ hl ⟨rfl, rfl⟩
 refine Sim.bind sim_sizeOf ?_
 rintro τ size _ hl2 rfl
 have main : ∀ (υ : BRel) (z z' : Array Value), BLe τ υ -> RowRel υ z z' -> Sim P VR υ
   (do
    let some cells := Instr.fill (fun i => some (i * size, size)) ((Array.range (len * size)).map (z[· % z.size]!)) ps.toList | stuck "buildSlice: a part of the wrong size"
    pure (Value.slice (some (<- newRow e cells)) len len))
   (do
    let some cells := Instr.fill (fun i => some (i * size, size)) ((Array.range (len * size)).map (z'[· % z'.size]!)) ps'.toList | stuck "buildSlice: a part of the wrong size"
    pure (Value.slice (some (<- newRow e cells)) len len)) := by
  intro υ z z' hl3 hzz
  have hr : RowRel υ ((Array.range (len * size)).map (z[· % z.size]!)) ((Array.range (len * size)).map (z'[· % z'.size]!)) := RowRel.of_map _ _ _ fun x _ => by
   rw [<- hzz.1]
   exact hzz.bang _
  rcases fill_rel (fun i => some (i * size, size)) _ _ _ _ (((hp.mono hl).mono hl2).mono hl3) hr with ⟨h1, h2⟩ | ⟨r, r', h1, h2, h3⟩
  ·rw [h1]
   exact .halt
  ·rw [h1, h2]
   refine Sim.bind (sim_newRow e h3) ?_
   intro ω a a' _ ha
   exact .pure (.slice ha len len)
 dsimp only
 split
 ·exact .halt
 ·split
  ·exact main τ #[] #[] (BLe.refl _) (RowRel.nil _)
  ·refine Sim.bind (sim_zero hz) ?_
   intro υ z z' hl3 hzz
   exact main υ z.cells z'.cells hl3 hzz.cells
theorem sim_loadAt {P : Program} {ρ : BRel} {t : TypeId} {x x' : Value} (hx : VRel ρ x x') : Sim P VR ρ (Instr.loadAt t x) (Instr.loadAt t x') := by
 refine Sim.bind (sim_sureAddr hx) ?_
 intro σ a a' _ ha
 exact sim_loadVar ha t
theorem sim_storeAt {P : Program} {ρ : BRel} {t : TypeId} {x x' y y' : Value} (hx : VRel ρ x x') (hy : VRel ρ y y') : Sim P UR ρ (Instr.storeAt t x y) (Instr.storeAt t x' y') := by
 refine Sim.bind (sim_sureAddr hx) ?_
 intro σ a a' hl ha
 exact sim_storeVar ha t (hy.mono hl)
inductive OARel (ρ : BRel) : Option Addr -> Option Addr -> Prop
 | none : OARel ρ none none
 | some {a a' : Addr} (h : ARel ρ a a') : OARel ρ (some a) (some a')
theorem sim_indexAt {P : Program} (OK : ProgOk P) {ρ : BRel} {t : TypeId} (ht : (sliceT.contains t || arrayT.contains t) = true) {x x' y y' : Value} (hx : VRel ρ x x') (hy : VRel ρ y y') : Sim P VR ρ (Instr.indexAt t x y) (Instr.indexAt t x' y') := by
 have tail : ∀ (σ : BRel) (k : IntKind) (i : Int) (b b' : Option Addr) (len : Nat) (e : TypeId), OARel σ b b' ->
   Sim P VR σ (do
    let tiny := len <= 1 && (match <- underlying t with | .array .. => true | _ => false)
    match b with
    | some a =>
     if 0 <= i /\ i < len then pure (Value.pointer (some (a.add (i.toNat * (<- sizeOf e)))))
     else if tiny then unsupported (.noEntry "op/indexAddr.an index out of range at an array of length 0 or 1 (ledger 616)")
     else boundsPanic k i len .index
    | none => boundsPanic k i 0 .index) (do
    let tiny := len <= 1 && (match <- underlying t with | .array .. => true | _ => false)
    match b' with
    | some a =>
     if 0 <= i /\ i < len then pure (Value.pointer (some (a.add (i.toNat * (<- sizeOf e)))))
     else if tiny then unsupported (.noEntry "op/indexAddr.an index out of range at an array of length 0 or 1 (ledger 616)")
     else boundsPanic k i len .index
    | none => boundsPanic k i 0 .index) := by
  intro σ k i b b' len e hb
  refine Sim.bind sim_und ?_
  rintro τ d _ hl rfl
  cases hb with
  | none => exact sim_bounds
  | some ha =>
   dsimp only
   split
   ·refine Sim.bind sim_sizeOf ?_
    rintro υ n _ hl2 rfl
    exact .pure (.ptr (((ha.mono hl).mono hl2).add _))
   ·repeat' split
    all_goals first | exact .halt | exact sim_bounds
 refine Sim.bind (sim_asIntOf hy) ?_
 rintro σ ⟨k, i⟩ _ hl rfl
 rcases (Bool.or_eq_true_iff.1 ht) with h | h
 ·obtain ⟨e, hu, _⟩ := OK.slice t h
  refine Sim.bind (sim_underlying hu) ?_
  rintro τ _ _ hl2 ⟨rfl, rfl⟩
  have hx2 := (hx.mono hl).mono hl2
  cases hx2 with
  | snil l c => exact tail τ k i none none l e .none
  | slice h l c => exact tail τ k i _ _ l e (.some h)
  | _ => exact .halt
 ·obtain ⟨n, e, hu⟩ := OK.array t h
  refine Sim.bind (sim_underlying hu) ?_
  rintro τ _ _ hl2 ⟨rfl, rfl⟩
  refine Sim.bind (sim_sureAddr ((hx.mono hl).mono hl2)) ?_
  intro υ a a' _ ha
  exact tail υ k i (some a) (some a') n e (.some ha)
theorem sim_index {P : Program} (OK : ProgOk P) {ρ : BRel} {t : TypeId} (ht : arrayT.contains t = true) {x x' y y' : Value} (hx : VRel ρ x x') (hy : VRel ρ y y') : Sim P VR ρ (Instr.index t x y) (Instr.index t x' y') := by
 obtain ⟨n, e, hu⟩ := OK.array t ht
 refine Sim.bind (sim_asIntOf hy) ?_
 rintro σ ⟨k, i⟩ _ hl rfl
 refine Sim.bind (sim_underlying hu) ?_
 rintro τ _ _ hl2 ⟨rfl, rfl⟩
 have hx2 := (hx.mono hl).mono hl2
 cases hx2 with
 | agg cs cs' hc h =>
  dsimp only
  split
  ·refine Sim.bind sim_sizeOf ?_
   rintro υ m _ hl3 rfl
   exact sim_part e (RowRel.mono hl3 ⟨hc, h⟩) _
  ·exact sim_bounds
 | _ => exact .halt
end
end Go.Proofs.YtdobjciaikofdaaGreatDoor
