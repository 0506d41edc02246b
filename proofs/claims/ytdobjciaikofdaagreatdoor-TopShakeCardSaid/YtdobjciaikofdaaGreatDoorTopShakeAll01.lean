/- Part 1 of 39 of what the proof of this law needs. Put together by a program out of the texts: SimA. -/
import Derived.Calls
namespace Go.Proofs.YtdobjciaikofdaaGreatDoor
section
open Go
def niceF : List Nat := [377, 135, 375, 136, 92, 382, 378, 383, 186, 191, 379, 380, 381, 192, 193, 194, 373, 132, 385, 384, 386, 246, 247, 248, 249, 250, 234, 387, 269, 116, 118, 74, 127, 114, 175, 176, 182, 181, 178, 64, 235, 117, 179, 237, 276, 275, 301, 277, 274, 300, 77]
def flatT : List Nat := [3, 4, 5, 154, 39, 254, 413, 155, 373, 378, 302, 22, 216, 190, 70, 328]
def intT : List Nat := [3, 5, 154, 39, 254]
def sliceT : List Nat := [22, 216, 190]
def arrayT : List Nat := [413, 155, 373, 378, 302, 379, 347, 70, 328, 355, 356]
def structT : List Nat := [127]
def niceG : List Nat := [8, 9, 10, 19, 20]
def flatS : Value -> Bool
 | .bool _ | .int _ _ | .string _ | .pointer none | .slice none _ _ | .nilFunc => true
 | .tuple vs => vs.isEmpty
 | _ => false
def flatV : Value -> Bool
 | .agg cs => cs.all flatS
 | v => flatS v
def okO : Operand -> Bool
 | .tmp _ => true
 | .const v => flatV v
 | .global g => niceG.contains g
 | .func f => niceF.contains f
def okB (b : Builtin) (ts : Array TypeId) : Bool :=
 match b with
 | .len => match ts[0]? with | some t => sliceT.contains t | none => false
 | .append | .copy => match ts[0]?, ts[1]? with | some t, some u => sliceT.contains t && sliceT.contains u | _, _ => false
 | .min | .max => true
 | _ => false
def isNilCmp (op : BinOp) (y : Operand) : Bool := match op, y with
 | .eql, .const (.slice none 0 0) | .neq, .const (.slice none 0 0) => true
 | _, _ => false
def okOp : Op -> Bool
 | .move x | .assign x | .box _ x | .load _ x | .unOp _ _ x | .extract x _ | .panic x | .makeInterface _ x => okO x
 | .pick c a b => okO c && okO a && okO b
 | .alloc t => flatT.contains t
 | .build t ps => arrayT.contains t && flatT.contains t && ps.all (fun q => okO q.2)
 | .buildSlice t _ ps => sliceT.contains t && ps.all (fun q => okO q.2)
 | .store _ a v => okO a && okO v
 | .binOp op t x y u => (intT.contains t && intT.contains u && okO x && okO y) || (sliceT.contains t && isNilCmp op y && okO x)
 | .nilCheck x => okO x
 | .fieldAddr t x _ => structT.contains t && okO x
 | .sliceToArrayPointer t x => arrayT.contains t && okO x
 | .convert s d x => intT.contains s && intT.contains d && okO x
 | .makeFunc (.func f) fs cs => niceF.contains f && fs.all okO && cs.all okO
 | .makeSlice t l c => sliceT.contains t && okO l && okO c
 | .slice t x lo hi mx => (sliceT.contains t || arrayT.contains t) && okO x && lo.all okO && hi.all okO && mx.all okO
 | .indexAddr t x i => (sliceT.contains t || arrayT.contains t) && okO x && okO i
 | .index t x i => arrayT.contains t && okO x && okO i
 | .call ⟨.builtin b, xs, ts⟩ => okB b ts && xs.all okO
 | .call ⟨.value f, xs, _⟩ => okO f && xs.all okO
 | _ => false
def okC : Code -> Bool
 | .region _ ops _ => ops.all (fun o => okOp o.op)
 | .seq a b => okC a && okC b
 | .cond c a b => okO c && okC a && okC b
 | .block _ b | .loop b | .scope b => okC b
 | .rangeFunc f _ a b => okO f && okC a && okC b
 | _ => true
abbrev BRel := Nat -> Nat -> Prop
abbrev nGlob : Nat := 21
structure Fine (ρ : BRel) : Prop where
 left : ∀ a x y, ρ a x -> ρ a y -> x = y
 right : ∀ a b x, ρ a x -> ρ b x -> a = b
 low : ∀ a x, ρ a x -> a < nGlob -> x = a
 high : ∀ a x, ρ a x -> x < nGlob -> x = a
 tabs : ∀ g, niceG.contains g = true -> ρ g g
def BLe (ρ σ : BRel) : Prop := (∀ b b', ρ b b' -> σ b b') /\ (Fine ρ -> Fine σ)
theorem BLe.refl (ρ : BRel) : BLe ρ ρ := ⟨fun _ _ h => h, fun h => h⟩
theorem BLe.trans {ρ σ τ : BRel} (h : BLe ρ σ) (h2 : BLe σ τ) : BLe ρ τ := ⟨fun b b' x => h2.1 b b' (h.1 b b' x), fun h3 => h2.2 (h.2 h3)⟩
inductive ARel (ρ : BRel) : Addr -> Addr -> Prop
 | mk {b b' : Nat} (h : ρ b b') (o : Nat) (s : Option Nat) : ARel ρ ⟨b, o, s⟩ ⟨b', o, s⟩
theorem ARel.mono {ρ σ : BRel} (h : BLe ρ σ) {a a' : Addr} (x : ARel ρ a a') : ARel σ a a' := by
 cases x with | mk hb o s => exact .mk (h.1 _ _ hb) o s
theorem ARel.add {ρ : BRel} {a a' : Addr} (h : ARel ρ a a') (n : Nat) : ARel ρ (a.add n) (a'.add n) := by
 cases h with | mk hb o s =>
  unfold Addr.add
  split
  ·exact .mk hb o s
  ·exact .mk hb _ _
abbrev idle : Value := .func (.method "") #[.nilIface] #[]
def soloV : Value -> Bool
 | .agg _ | .tuple _ => false
 | _ => true
def idleV : Value -> Bool
 | .agg _ | .tuple _ | .bool _ => false
 | _ => true
inductive VRel (ρ : BRel) : Value -> Value -> Prop
 | idle (v : Value) (h : idleV v = true) : VRel ρ idle v
 | cnil : VRel ρ (.chan none) (.chan none)
 | chan (r : Nat) : VRel ρ (.chan (some r)) (.chan (some r))
 | iface (t : TypeId) {v v' : Value} (h : VRel ρ v v') : VRel ρ (.iface t v) (.iface t v')
 | bool (b : Bool) : VRel ρ (.bool b) (.bool b)
 | int (k : IntKind) (n : Int) : VRel ρ (.int k n) (.int k n)
 | string (s : ByteArray) : VRel ρ (.string s) (.string s)
 | pnil : VRel ρ (.pointer none) (.pointer none)
 | ptr {a a' : Addr} (h : ARel ρ a a') : VRel ρ (.pointer (some a)) (.pointer (some a'))
 | snil (l c : Nat) : VRel ρ (.slice none l c) (.slice none l c)
 | slice {a a' : Addr} (h : ARel ρ a a') (l c : Nat) : VRel ρ (.slice (some a) l c) (.slice (some a') l c)
 | func (f : FuncId) (hn : niceF.contains f = true) (fs fs' cs cs' : Array Value) (hf : fs.size = fs'.size) (hc : cs.size = cs'.size)
   (h : ∀ (i : Nat) (h1 : i < fs.size) (h2 : i < fs'.size), VRel ρ fs[i] fs'[i]) (h' : ∀ (i : Nat) (h1 : i < cs.size) (h2 : i < cs'.size), VRel ρ cs[i] cs'[i]) : VRel ρ (.func (.func f) fs cs) (.func (.func f) fs' cs')
 | yield {l l' : Nat} (h : ρ l l') : VRel ρ (.func (.yield l) #[] #[]) (.func (.yield l') #[] #[])
 | nilFunc : VRel ρ .nilFunc .nilFunc
 | agg (cs cs' : Array Value) (hc : cs.size = cs'.size) (h : ∀ (i : Nat) (h1 : i < cs.size) (h2 : i < cs'.size), VRel ρ cs[i] cs'[i]) : VRel ρ (.agg cs) (.agg cs')
 | tuple (cs cs' : Array Value) (hc : cs.size = cs'.size) (h : ∀ (i : Nat) (h1 : i < cs.size) (h2 : i < cs'.size), VRel ρ cs[i] cs'[i]) : VRel ρ (.tuple cs) (.tuple cs')
theorem VRel.mono {ρ σ : BRel} (hl : BLe ρ σ) {v v' : Value} (x : VRel ρ v v') : VRel σ v v' := by
 induction x with
 | idle v h => exact .idle v h
 | cnil => exact .cnil
 | chan r => exact .chan r
 | iface t _ ih => exact .iface t ih
 | bool b => exact .bool b
 | int k n => exact .int k n
 | string s => exact .string s
 | pnil => exact .pnil
 | ptr h => exact .ptr (h.mono hl)
 | snil l c => exact .snil l c
 | slice h l c => exact .slice (h.mono hl) l c
 | func f hn fs fs' cs cs' hf hc _ _ ih ih' => exact .func f hn fs fs' cs cs' hf hc ih ih'
 | yield h => exact .yield (hl.1 _ _ h)
 | nilFunc => exact .nilFunc
 | agg cs cs' hc _ ih => exact .agg cs cs' hc ih
 | tuple cs cs' hc _ ih => exact .tuple cs cs' hc ih
def RowRel (ρ : BRel) (cs cs' : Array Value) : Prop := cs.size = cs'.size /\ ∀ (i : Nat) (h1 : i < cs.size) (h2 : i < cs'.size), VRel ρ cs[i] cs'[i]
theorem RowRel.mono {ρ σ : BRel} (hl : BLe ρ σ) {cs cs' : Array Value} (h : RowRel ρ cs cs') : RowRel σ cs cs' := ⟨h.1, fun i h1 h2 => (h.2 i h1 h2).mono hl⟩
inductive ORel (ρ : BRel) : Obj -> Obj -> Prop
 | cells {c c' : Array Value} (h : RowRel ρ c c') (e : TypeId) (fr fr' : Nat × Nat) : ORel ρ (.cells c e fr) (.cells c' e fr')
 | loop (s : LoopState) (p : Option Code) (fn : FuncId) {t t' : Array Value} (h : RowRel ρ t t') (ps : Array Tmp) (x y : Code) (hx : okC x = true) (hy : okC y = true) (hp : ∀ c, p = some c -> okC c = true) {d d' : Nat} (hd : ρ d d') : ORel ρ (.loop ⟨s, p, fn, t, ps, x, y, d⟩) (.loop ⟨s, p, fn, t', ps, x, y, d'⟩)
 | noDefers : ORel ρ (.deferred (some [])) (.deferred (some []))
 | taken : ORel ρ (.deferred none) (.deferred none)
 | number {a a' : Addr} (h : ARel ρ a a') (l : Bool) : ORel ρ (.number a l) (.number a' l)
theorem ORel.mono {ρ σ : BRel} (hl : BLe ρ σ) {o o' : Obj} (h : ORel ρ o o') : ORel σ o o' := by
 cases h with
 | cells h e fr fr' => exact .cells (h.mono hl) e fr fr'
 | loop s p fn h ps x y hx hy hp hd => exact .loop s p fn (h.mono hl) ps x y hx hy hp (hl.1 _ _ hd)
 | noDefers => exact .noDefers
 | taken => exact .taken
 | number h l => exact .number (h.mono hl) l
def okH : Halt -> Bool
 | .panic _ | .stuck _ => true
 | .unsupported (.initOrder _) => false
 | .unsupported _ => true
 | _ => false
inductive Dead {α : Type} (P : Program) : Sem α -> Prop
 | new {o : Obj} {k : Nat -> Sem α} (h : ∀ v, Dead P (k v)) : Dead P (.new o k)
 | shape {r : Nat} {k : Option (TypeId × Nat) -> Sem α} (h : ∀ v, Dead P (k v)) : Dead P (.shape r k)
 | frozen {a : Addr} {k : Bool -> Sem α} (h : ∀ v, Dead P (k v)) : Dead P (.frozen a k)
 | choose {q : Question} {k : Nat -> Sem α} (h : ∀ v, Dead P (k v)) : Dead P (.choose q k)
 | program {k : Program -> Sem α} (h : Dead P (k P)) : Dead P (.program k)
 | mark {m : Mark} {k : Sem α} (h : Dead P k) : Dead P (.mark m k)
 | stop (h : Halt) (hh : okH h = true) : Dead P (.halt h)
theorem Dead.halt {α : Type} {P : Program} (h : Halt) (hh : okH h = true := by rfl) : Dead P (.halt h : Sem α) := .stop h hh
theorem Dead.bind {α β : Type} {P : Program} {s : Sem α} (h : Dead P s) (f : α -> Sem β) : Dead P (s.bind f) := by
 induction h with
 | new _ ih => exact .new ih
 | shape _ ih => exact .shape ih
 | frozen _ ih => exact .frozen ih
 | choose _ ih => exact .choose ih
 | program _ ih => exact .program ih
 | mark _ ih => exact .mark ih
 | stop h hh => exact .stop h hh
inductive Sim {α : Type} (P : Program) (R : BRel -> α -> α -> Prop) : BRel -> Sem α -> Sem α -> Prop
 | pure {ρ : BRel} {a a' : α} (h : R ρ a a') : Sim P R ρ (.pure a) (.pure a')
 | load {ρ : BRel} {a a' : Addr} {k k' : Value -> Sem α} (ha : ARel ρ a a') (h : ∀ v v', VRel ρ v v' -> Sim P R ρ (k v) (k' v')) : Sim P R ρ (.load .plain a k) (.load .plain a' k')
 | store {ρ : BRel} {a a' : Addr} {v v' : Value} {k k' : Sem α} (ha : ARel ρ a a') (hv : VRel ρ v v') (h : Sim P R ρ k k') : Sim P R ρ (.store .plain a v k) (.store .plain a' v' k')
 | new {ρ : BRel} {o o' : Obj} {k k' : Nat -> Sem α} (ho : ORel ρ o o') (hfr : ∀ c e lo hi, o' = .cells c e (lo, hi) -> lo = 0 /\ hi = 0) (h : ∀ (σ : BRel) (r r' : Nat), BLe ρ σ -> σ r r' -> Sim P R σ (k r) (k' r')) : Sim P R ρ (.new o k) (.new o' k')
 | room {ρ : BRel} {k k' : Sem α} (h : Sim P R ρ k k') : Sim P R ρ (.mark .noRoom k) (.mark .noRoom k')
 | shape {ρ : BRel} {r r' : Nat} {k k' : Option (TypeId × Nat) -> Sem α} (hr : ρ r r') (h : ∀ x, Sim P R ρ (k x) (k' x)) : Sim P R ρ (.shape r k) (.shape r' k')
 | getObj {ρ : BRel} {r r' : Nat} {k k' : Obj -> Sem α} (hr : ρ r r') (h : ∀ o o', ORel ρ o o' -> Sim P R ρ (k o) (k' o')) : Sim P R ρ (.getObj r k) (.getObj r' k')
 | setObj {ρ : BRel} {r r' : Nat} {o o' : Obj} {k k' : Sem α} (hr : ρ r r') (hn : ∀ c e f, o ≠ .cells c e f) (ho : ORel ρ o o') (h : Sim P R ρ k k') : Sim P R ρ (.setObj r o k) (.setObj r' o' k')
 | choose {ρ : BRel} {q : Question} {k k' : Nat -> Sem α} (h : ∀ n, Sim P R ρ (k n) (k' n)) : Sim P R ρ (.choose q k) (.choose q k')
 | program {ρ : BRel} {k k' : Program -> Sem α} (h : Sim P R ρ (k P) (k' P)) : Sim P R ρ (.program k) (.program k')
 | dead {ρ : BRel} {s s' : Sem α} (h : Dead P s) : Sim P R ρ s s'
theorem Sim.bind {α β : Type} {P : Program} {R : BRel -> α -> α -> Prop} {R2 : BRel -> β -> β -> Prop} {ρ : BRel} {s s' : Sem α} {f f' : α -> Sem β} (h : Sim P R ρ s s') (hf : ∀ σ a a', BLe ρ σ -> R σ a a' -> Sim P R2 σ (f a) (f' a')) : Sim P R2 ρ (s.bind f) (s'.bind f') := by
 induction h with
 | pure h => exact hf _ _ _ (BLe.refl _) h
 | load ha _ ih => exact .load ha fun v v' hv => ih v v' hv hf
 | store ha hv _ ih => exact .store ha hv (ih hf)
 | new ho hfr _ ih => exact .new ho hfr fun σ r r' hl hr => ih σ r r' hl hr fun τ a a' h1 h2 => hf τ a a' (hl.trans h1) h2
 | room _ ih => exact .room (ih hf)
 | shape hr _ ih => exact .shape hr fun x => ih x hf
 | getObj hr _ ih => exact .getObj hr fun o o' ho => ih o o' ho hf
 | setObj hr hn ho _ ih => exact .setObj hr hn ho (ih hf)
 | choose _ ih => exact .choose fun n => ih n hf
 | program _ ih => exact .program (ih hf)
 | dead h => exact .dead (h.bind _)
theorem Sim.mono {α : Type} {P : Program} {R R2 : BRel -> α -> α -> Prop} {ρ : BRel} {s s' : Sem α} (h : Sim P R ρ s s') (hf : ∀ σ a a', BLe ρ σ -> R σ a a' -> R2 σ a a') : Sim P R2 ρ s s' := by
 induction h with
 | pure h => exact .pure (hf _ _ _ (BLe.refl _) h)
 | load ha _ ih => exact .load ha fun v v' hv => ih v v' hv hf
 | store ha hv _ ih => exact .store ha hv (ih hf)
 | new ho hfr _ ih => exact .new ho hfr fun σ r r' hl hr => ih σ r r' hl hr fun τ a a' h1 h2 => hf τ a a' (hl.trans h1) h2
 | room _ ih => exact .room (ih hf)
 | shape hr _ ih => exact .shape hr fun x => ih x hf
 | getObj hr _ ih => exact .getObj hr fun o o' ho => ih o o' ho hf
 | setObj hr hn ho _ ih => exact .setObj hr hn ho (ih hf)
 | choose _ ih => exact .choose fun n => ih n hf
 | program _ ih => exact .program (ih hf)
 | dead h => exact .dead h
theorem Sim.halt {α : Type} {P : Program} {R : BRel -> α -> α -> Prop} {ρ : BRel} {h : Halt} {s : Sem α} (hh : okH h = true := by rfl) : Sim P R ρ (.halt h) s := .dead (.stop h hh)
def EqR {α : Type} : BRel -> α -> α -> Prop := fun _ a a' => a = a'
inductive Plain {α : Type} (P : Program) : Sem α -> Prop
 | pure (a : α) : Plain P (.pure a)
 | choose {q : Question} {k : Nat -> Sem α} (h : ∀ n, Plain P (k n)) : Plain P (.choose q k)
 | program {k : Program -> Sem α} (h : Plain P (k P)) : Plain P (.program k)
 | stop (h : Halt) (hh : okH h = true) : Plain P (.halt h)
theorem Plain.halt {α : Type} {P : Program} (h : Halt) (hh : okH h = true := by rfl) : Plain P (.halt h : Sem α) := .stop h hh
theorem Plain.sim {α : Type} {P : Program} {s : Sem α} (h : Plain P s) (ρ : BRel) : Sim P EqR ρ s s := by
 induction h with
 | pure a => exact .pure rfl
 | choose _ ih => exact .choose ih
 | program _ ih => exact .program ih
 | stop h hh => exact .dead (.stop h hh)
theorem Plain.bind {α β : Type} {P : Program} {s : Sem α} {f : α -> Sem β} (h : Plain P s) (hf : ∀ a, Plain P (f a)) : Plain P (s.bind f) := by
 induction h with
 | pure a => exact hf a
 | choose _ ih => exact .choose ih
 | program _ ih => exact .program ih
 | stop h hh => exact .stop h hh
end
end Go.Proofs.YtdobjciaikofdaaGreatDoor
