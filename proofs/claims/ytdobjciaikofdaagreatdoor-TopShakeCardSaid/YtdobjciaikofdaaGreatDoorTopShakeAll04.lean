/- Part 4 of 39 of what the proof of this law needs. Put together by a program out of the texts: SimH SimI SimJ. -/
import Derived.Test.YtdobjciaikofdaaGreatDoorTopShakeAll03
namespace Go.Proofs.YtdobjciaikofdaaGreatDoor
section
open Go
inductive OVRel (ρ : BRel) : Option Value -> Option Value -> Prop
 | none : OVRel ρ none none
 | some {a a' : Value} (h : VRel ρ a a') : OVRel ρ (some a) (some a')
theorem OVRel.mono {ρ σ : BRel} (hl : BLe ρ σ) {l l' : Option Value} (h : OVRel ρ l l') : OVRel σ l l' := by
 cases h with
 | none => exact .none
 | some h => exact .some (h.mono hl)
theorem OVRel.map {ρ : BRel} {ev ev' : Operand -> Value} (o : Option Operand) (h : ∀ x, o = Option.some x -> VRel ρ (ev x) (ev' x)) : OVRel ρ (o.map ev) (o.map ev') := by
 cases o with
 | none => exact .none
 | some x => exact .some (h x rfl)
theorem sim_sliceBound {P : Program} {ρ : BRel} {x x' : Value} (hx : VRel ρ x x') (y : Nat) (c : BoundsCode) : Sim P EqR ρ (Instr.sliceBound x y c) (Instr.sliceBound x' y c) := by
 refine Sim.bind (sim_asIntOf hx) ?_
 rintro σ ⟨k, i⟩ _ hl rfl
 dsimp only
 split
 ·exact .pure rfl
 ·exact sim_bounds
theorem sim_ret {α β : Type} {P : Program} {R : BRel -> β -> β -> Prop} {ρ : BRel} {a a' : α} {f f' : α -> Sem β} (h : Sim P R ρ (f a) (f' a')) : Sim P R ρ (pure a >>= f) (pure a' >>= f') := h
theorem sim_sliceBounds {P : Program} {ρ : BRel} (b : Bool) (len cap : Nat) {lo lo' hi hi' mx mx' : Option Value} (h1 : OVRel ρ lo lo') (h2 : OVRel ρ hi hi') (h3 : OVRel ρ mx mx') : Sim P EqR ρ (Instr.sliceBounds b len cap lo hi mx) (Instr.sliceBounds b len cap lo' hi' mx') := by
 have low : ∀ (σ : BRel) (h m : Nat) (c : BoundsCode), BLe ρ σ -> Sim P EqR σ (do
    let l <- match lo with
     | Option.some v => Instr.sliceBound v h c
     | Option.none => pure 0
    pure (l, h, m)) (do
    let l <- match lo' with
     | Option.some v => Instr.sliceBound v h c
     | Option.none => pure 0
    pure (l, h, m)) := by
  intro σ h m c hl
  cases h1 with
  | none => exact .pure rfl
  | some hv =>
   refine Sim.bind (sim_sliceBound (hv.mono hl) h c) ?_
   rintro τ l _ _ rfl
   exact .pure rfl
 cases h3 with
 | none =>
  cases h2 with
  | none => exact low ρ len cap _ (BLe.refl _)
  | some hv =>
   refine sim_ret ?_
   refine Sim.bind (sim_sliceBound hv cap _) ?_
   rintro σ h _ hl rfl
   exact low σ h cap _ hl
 | some hm =>
  refine Sim.bind (sim_sliceBound hm cap _) ?_
  rintro σ m _ hl rfl
  cases h2 with
  | none => exact .halt
  | some hv =>
   refine Sim.bind (sim_sliceBound (hv.mono hl) m _) ?_
   rintro τ h _ hl2 rfl
   exact low τ h m _ (hl.trans hl2)
theorem OARel.of_eq {ρ : BRel} {a a' : Addr} (h : ARel ρ a a') (c : Prop) [Decidable c] (n : Nat) : ARel ρ (if c then a else a.add n) (if c then a' else a'.add n) := by
 split
 ·exact h
 ·exact h.add n
theorem sim_sliceAt {P : Program} (OK : ProgOk P) {ρ : BRel} {t : TypeId} (ht : (sliceT.contains t || arrayT.contains t) = true) {x x' : Value} (hx : VRel ρ x x') {lo lo' hi hi' mx mx' : Option Value} (h1 : OVRel ρ lo lo') (h2 : OVRel ρ hi hi') (h3 : OVRel ρ mx mx') : Sim P VR ρ (Instr.sliceAt t x lo hi mx) (Instr.sliceAt t x' lo' hi' mx') := by
 rcases (Bool.or_eq_true_iff.1 ht) with h | h
 ·obtain ⟨e, hu, _⟩ := OK.slice t h
  refine Sim.bind (sim_underlying hu) ?_
  rintro σ _ _ hl ⟨rfl, rfl⟩
  refine Sim.bind (sim_underlying hu) ?_
  rintro τ _ _ hl2 ⟨rfl, rfl⟩
  have hl3 := hl.trans hl2
  have hx2 := hx.mono hl3
  cases hx2 with
  | snil l c =>
   refine Sim.bind (sim_sliceBounds true l c (h1.mono hl3) (h2.mono hl3) (h3.mono hl3)) ?_
   rintro υ ⟨lo, hi, m⟩ _ hl4 rfl
   refine Sim.bind sim_sizeOf ?_
   rintro ω n _ hl5 rfl
   split <;> exact .pure (.snil _ _)
  | slice ha l c =>
   refine Sim.bind (sim_sliceBounds true l c (h1.mono hl3) (h2.mono hl3) (h3.mono hl3)) ?_
   rintro υ ⟨lo, hi, m⟩ _ hl4 rfl
   refine Sim.bind sim_sizeOf ?_
   rintro ω n _ hl5 rfl
   split
   ·exact .pure (.slice ((ha.mono hl4).mono hl5) _ _)
   ·exact .pure (.slice (((ha.mono hl4).mono hl5).add _) _ _)
  | _ => exact .halt
 ·obtain ⟨n, e, hu⟩ := OK.array t h
  refine Sim.bind (sim_underlying hu) ?_
  rintro σ _ _ hl ⟨rfl, rfl⟩
  refine Sim.bind (sim_sureAddr (hx.mono hl)) ?_
  intro τ a a' hl2 ha
  have hl3 := hl.trans hl2
  refine Sim.bind (sim_sliceBounds false n n (h1.mono hl3) (h2.mono hl3) (h3.mono hl3)) ?_
  rintro υ ⟨lo, hi, m⟩ _ hl4 rfl
  refine Sim.bind sim_sizeOf ?_
  rintro ω k _ hl5 rfl
  exact .pure (.slice (OARel.of_eq ((ha.mono hl4).mono hl5) (m = lo) _) _ _)
theorem sim_extract {P : Program} {ρ : BRel} {x x' : Value} (hx : VRel ρ x x') (i : Nat) : Sim P VR ρ (Instr.extract x i) (Instr.extract x' i) := by
 cases hx with
 | tuple cs cs' hc h =>
  unfold Instr.extract
  dsimp only
  have hr : RowRel ρ cs cs' := ⟨hc, h⟩
  rcases e : cs[i]? with _ | v
  ·exact .halt
  ·obtain ⟨v', e', hv⟩ := hr.get e
   rw [e']
   exact .pure hv
 | _ => exact .halt
theorem sim_makeInterface {P : Program} {ρ : BRel} {t : TypeId} {x x' : Value} (hx : VRel ρ x x') : Sim P VR ρ (Instr.makeInterface t x) (Instr.makeInterface t x') := by
 refine Sim.bind sim_und ?_
 rintro σ d _ hl rfl
 cases d <;> first | exact .pure (.iface t (hx.mono hl)) | exact .halt
theorem sim_panicOp {P : Program} {ρ : BRel} {x x' : Value} (hx : VRel ρ x x') : Sim P VR ρ (Instr.panic x) (Instr.panic x') := by
 cases hx <;> exact .halt
theorem sim_lenOf {P : Program} {ρ : BRel} {x x' : Value} (hx : VRel ρ x x') : Sim P EqR ρ (Builtin.lenOf x) (Builtin.lenOf x') := by
 cases hx <;> first | exact .pure rfl | exact .halt
theorem sim_firstCells {P : Program} {ρ : BRel} (size n : Nat) {x x' : Value} (hx : VRel ρ x x') : Sim P RR ρ (Builtin.firstCells size n x) (Builtin.firstCells size n x') := by
 cases hx with
 | slice h l c => exact sim_loadCells h _
 | snil l c => exact .pure (RowRel.nil ρ)
 | string s => exact .pure (RowRel.of_map _ _ _ fun b _ => .int _ _)
 | _ => exact .halt
theorem sim_len {P : Program} (OK : ProgOk P) {ρ : BRel} {ts : Array TypeId} {t u : TypeId} (ht0 : ts[0]? = some t) (ht : sliceT.contains t = true) {xs xs' : Array Value} (hx : RowRel ρ xs xs') : Sim P VR ρ (Builtin.len_ ts u xs) (Builtin.len_ ts u xs') := by
 obtain ⟨e, hu, _⟩ := OK.slice t ht
 unfold Builtin.len_
 rw [ht0]
 rcases h : xs[0]? with _ | v
 ·exact .halt
 ·obtain ⟨v', h', hv⟩ := hx.get h
  rw [h']
  refine Sim.bind (sim_underlying hu) ?_
  rintro σ _ _ hl ⟨rfl, rfl⟩
  cases hv <;> first | exact .pure (.int _ _) | exact .halt
theorem min_rel {P : Program} {ρ : BRel} {x x' y y' : Value} (hx : VRel ρ x x') (hy : VRel ρ y y') : Sim P VR ρ (Builtin.min2 x y) (Builtin.min2 x' y') := by
 cases hx <;> cases hy <;> first | exact .halt | exact .pure (.int _ _) | skip
 refine Sim.bind sim_stringOp ?_
 intro σ b b' _ hb
 refine Sim.bind (sim_asBool hb) ?_
 rintro τ c _ _ rfl
 exact .pure (.string _)
theorem max_rel {P : Program} {ρ : BRel} {x x' y y' : Value} (hx : VRel ρ x x') (hy : VRel ρ y y') : Sim P VR ρ (Builtin.max2 x y) (Builtin.max2 x' y') := by
 cases hx <;> cases hy <;> first | exact .halt | exact .pure (.int _ _) | skip
 refine Sim.bind sim_stringOp ?_
 intro σ b b' _ hb
 refine Sim.bind (sim_asBool hb) ?_
 rintro τ c _ _ rfl
 exact .pure (.string _)
theorem sim_foldlM {P : Program} {f : Value -> Value -> Sem Value} (hf : ∀ (σ : BRel) x x' y y', VRel σ x x' -> VRel σ y y' -> Sim P VR σ (f x y) (f x' y')) : ∀ {ρ : BRel} {l l' : List Value} {x x' : Value}, LRel ρ l l' -> VRel ρ x x' -> Sim P VR ρ (l.foldlM f x) (l'.foldlM f x')
 | _, _, _, _, _, .nil, hx => .pure hx
 | _, _, _, _, _, .cons hv ht, hx => by
  rw [List.foldlM_cons, List.foldlM_cons]
  refine Sim.bind (hf _ _ _ _ _ hx hv) ?_
  intro σ y y' hl hy
  exact sim_foldlM hf (ht.mono hl) hy
theorem sim_min {P : Program} {ρ : BRel} {ts : Array TypeId} {u : TypeId} {xs xs' : Array Value} (hx : RowRel ρ xs xs') : Sim P VR ρ (Builtin.min_ ts u xs) (Builtin.min_ ts u xs') := by
 unfold Builtin.min_
 have hl := hx.list
 generalize xs.toList = l at hl ⊢
 generalize xs'.toList = l' at hl ⊢
 cases hl with
 | nil => exact .halt
 | cons hv ht => exact sim_foldlM (fun _ _ _ _ _ h1 h2 => min_rel h1 h2) ht hv
theorem sim_max {P : Program} {ρ : BRel} {ts : Array TypeId} {u : TypeId} {xs xs' : Array Value} (hx : RowRel ρ xs xs') : Sim P VR ρ (Builtin.max_ ts u xs) (Builtin.max_ ts u xs') := by
 unfold Builtin.max_
 have hl := hx.list
 generalize xs.toList = l at hl ⊢
 generalize xs'.toList = l' at hl ⊢
 cases hl with
 | nil => exact .halt
 | cons hv ht => exact sim_foldlM (fun _ _ _ _ _ h1 h2 => max_rel h1 h2) ht hv
theorem sim_copy {P : Program} (OK : ProgOk P) {ρ : BRel} {ts : Array TypeId} {t u : TypeId} (ht0 : ts[0]? = some t) (ht : sliceT.contains t = true) {xs xs' : Array Value} (hx : RowRel ρ xs xs') : Sim P VR ρ (Builtin.copy_ ts u xs) (Builtin.copy_ ts u xs') := by
 obtain ⟨e, hu, _⟩ := OK.slice t ht
 unfold Builtin.copy_
 rw [ht0]
 rcases h : xs[0]? with _ | d
 ·exact .halt
 rcases h2 : xs[1]? with _ | s
 ·exact .halt
 obtain ⟨d', h', hd⟩ := hx.get h
 obtain ⟨s', h2', hs⟩ := hx.get h2
 rw [h', h2']
 refine Sim.bind (sim_underlying hu) ?_
 rintro σ _ _ hl ⟨rfl, rfl⟩
 have tail : ∀ (b b' : Option Addr) (dl : Nat), OARel σ b b' -> Sim P VR σ (do
   let n := Nat.min (<- Builtin.lenOf s) dl
   let cells <- Builtin.firstCells (<- sizeOf e) n s
   if let Option.some a := b then storeCells a cells.toList
   pure (goInt n)) (do
   let n := Nat.min (<- Builtin.lenOf s') dl
   let cells <- Builtin.firstCells (<- sizeOf e) n s'
   if let Option.some a := b' then storeCells a cells.toList
   pure (goInt n)) := by
  intro b b' dl hb
  refine Sim.bind (sim_lenOf (hs.mono hl)) ?_
  rintro τ n _ hl2 rfl
  refine Sim.bind sim_sizeOf ?_
  rintro υ z _ hl3 rfl
  refine Sim.bind (sim_firstCells z _ (((hs.mono hl).mono hl2).mono hl3)) ?_
  intro ω c c' hl4 hc
  cases hb with
  | none => exact .pure (.int _ _)
  | some ha =>
   refine Sim.bind (sim_storeCells ((((ha.mono hl2).mono hl3)).mono hl4) _ _ 0 hc.list) ?_
   intro _ _ _ _ _
   exact .pure (.int _ _)
 have hd2 := hd.mono hl
 cases hd2 with
 | snil l c => exact tail none none l .none
 | slice ha l c => exact tail _ _ l (.some ha)
 | _ => exact .halt
end
section
open Go
theorem zeroCells_rel {ρ : BRel} {z z' : Array Value} (h : RowRel ρ z z') (n : Nat) : RowRel ρ (Builtin.zeroCells z n) (Builtin.zeroCells z' n) := by
 unfold Builtin.zeroCells
 rw [<- h.1]
 exact RowRel.of_map _ _ _ fun i _ => h.bang _
def shareX (s n : Nat) (b : Option Addr) (x : Value) : Sem Bool := match x with
 | .slice (some b') _ _ => do pure (!(<- Builtin.holdsCells b' (n * s)) || b.any (·.block == b'.block))
 | _ => pure false
theorem dead_shareX {α : Type} {P : Program} (s n : Nat) (b : Option Addr) (x : Value) {f : Bool -> Sem α} (hf : ∀ c, Dead P (f c)) : Dead P ((shareX s n b x).bind f) := by
 cases x with
 | slice o l c =>
  cases o with
  | none => exact hf _
  | some a =>
   refine .shape fun z => ?_
   rcases z with _ | ⟨e, c⟩ <;> exact hf _
 | _ => exact hf _
theorem dead_share {α : Type} {P : Program} (s n : Nat) (b : Option Addr) (x : Value) {f : Bool -> Sem α} (hf : ∀ c, Dead P (f c)) (B : Bool) : Dead P (Sem.bind (if (!B) = true then pure true else shareX s n b x : Sem Bool) f) := by
 cases B
 ·exact hf true
 ·exact dead_shareX s n b x hf
theorem dead_mayShare {α : Type} {P : Program} (s : Nat) (l n : Nat) (b : Option Addr) (x : Value) {f : Bool -> Sem α} (hf : ∀ c, Dead P (f c)) : Dead P ((Builtin.mayShare s l n b x).bind f) := by
 unfold Builtin.mayShare
 cases b with
 | none => exact dead_share s n none x hf true
 | some a =>
  refine .shape fun z => ?_
  rcases z with _ | ⟨e, c⟩
  ·refine .frozen fun q => ?_
   cases q <;> exact hf _
  ·refine .frozen fun q => ?_
   exact dead_share s n (some a) x hf _
theorem sim_choose {P : Program} {ρ : BRel} (q : Question) : Sim P EqR ρ (choose q) (choose q) := .choose fun _ => .pure rfl
theorem append_grow {P : Program} {ρ : BRel} {e : TypeId} (hz : zeroFlat P e = true) (size need n : Nat) {b b' : Option Addr} (l c : Nat) (hb : VRel ρ (.slice b l c) (.slice b' l c)) {s s' : Value} (hs : VRel ρ s s') : Sim P VR ρ
  (do
   let newCap <- choose (Question.appendCap need c e)
   askRoom (newCap * (<- typeInfo e).bytes)
   let old <- Builtin.firstCells size l (Value.slice b l c)
   let new <- Builtin.firstCells size n s
   let rest := Builtin.zeroCells (<- zeroValue e).cells (newCap - need)
   pure (Value.slice (some (<- newRow e (old ++ new ++ rest))) need newCap))
  (do
   let newCap <- choose (Question.appendCap need c e)
   askRoom (newCap * (<- typeInfo e).bytes)
   let old <- Builtin.firstCells size l (Value.slice b' l c)
   let new <- Builtin.firstCells size n s'
   let rest := Builtin.zeroCells (<- zeroValue e).cells (newCap - need)
   pure (Value.slice (some (<- newRow e (old ++ new ++ rest))) need newCap)) := by
 refine Sim.bind (sim_choose _) ?_
 rintro σ0 newCap _ hl0 rfl
 refine Sim.bind sim_typeInfo ?_
 rintro σ i _ hl1 rfl
 have hl := hl0.trans hl1
 have hroom : Sim P UR σ (askRoom (newCap * i.bytes)) (askRoom (newCap * i.bytes)) := by
  unfold askRoom
  split
  ·exact .room (.pure trivial)
  ·exact .pure trivial
 refine Sim.bind hroom ?_
 rintro τ _ _ hl2 _
 have hl3 := hl.trans hl2
 refine Sim.bind (sim_firstCells size l (hb.mono hl3)) ?_
 intro υ o o' hl4 ho
 refine Sim.bind (sim_firstCells size n ((hs.mono hl3).mono hl4)) ?_
 intro ω w w' hl5 hw
 refine Sim.bind (sim_zero hz) ?_
 intro χ z z' hl6 hzz
 refine Sim.bind (sim_newRow e ((((ho.mono hl5).mono hl6).append (hw.mono hl6)).append (zeroCells_rel hzz.cells _))) ?_
 intro ψ a a' _ ha
 exact .pure (.slice ha _ _)
theorem sim_append {P : Program} (OK : ProgOk P) {ρ : BRel} {ts : Array TypeId} {t t2 u : TypeId} (ht0 : ts[0]? = some t) (ht : sliceT.contains t = true) (ht1 : ts[1]? = some t2) (ht2 : sliceT.contains t2 = true) {xs xs' : Array Value} (hx : RowRel ρ xs xs') : Sim P VR ρ (Builtin.append_ ts u xs) (Builtin.append_ ts u xs') := by
 obtain ⟨e, hu, hz⟩ := OK.slice t ht
 obtain ⟨e2, hu2, _⟩ := OK.slice t2 ht2
 unfold Builtin.append_
 rw [ht0, ht1]
 rcases h : xs[0]? with _ | d
 ·exact .halt
 rcases h2 : xs[1]? with _ | s
 ·exact .halt
 obtain ⟨d', h', hd⟩ := hx.get h
 obtain ⟨s', h2', hs⟩ := hx.get h2
 rw [h', h2']
 refine Sim.bind (sim_underlying hu) ?_
 rintro σ _ _ hl ⟨rfl, rfl⟩
 have hd2 := hd.mono hl
 cases hd2 with
 | snil l c =>
  refine Sim.bind sim_sizeOf ?_
  rintro τ size _ hl2 rfl
  refine Sim.bind (sim_underlying hu2) ?_
  rintro υ _ _ hl3 ⟨rfl, rfl⟩
  refine sim_ret (a := false) (a' := false) ?_
  refine Sim.bind (sim_lenOf (((hs.mono hl).mono hl2).mono hl3)) ?_
  rintro ω n _ hl4 rfl
  have hs4 := (((hs.mono hl).mono hl2).mono hl3).mono hl4
  dsimp only
  split
  ·refine Sim.bind (sim_firstCells size n hs4) ?_
   intro χ w w' _ _
   exact .pure (.snil _ _)
  ·refine Sim.bind sim_typeInfo ?_
   rintro χ i _ hl5 rfl
   split
   ·exact .dead (Dead.bind (dead_panic P _) _)
   ·refine Sim.bind sim_typeInfo ?_
    rintro ψ i2 _ hl6 rfl
    split
    ·refine .dead ?_
     refine Dead.bind (dead_mayShare _ _ _ _ _ fun c => ?_) _
     cases c <;> first | exact .halt _ | exact .mark (.halt _)
    ·exact append_grow hz size _ n l c (.snil l c) ((hs4.mono hl5).mono hl6)
 | slice ha l c =>
  refine Sim.bind sim_sizeOf ?_
  rintro τ size _ hl2 rfl
  refine Sim.bind (sim_underlying hu2) ?_
  rintro υ _ _ hl3 ⟨rfl, rfl⟩
  refine sim_ret (a := false) (a' := false) ?_
  refine Sim.bind (sim_lenOf (((hs.mono hl).mono hl2).mono hl3)) ?_
  rintro ω n _ hl4 rfl
  have hs4 := (((hs.mono hl).mono hl2).mono hl3).mono hl4
  dsimp only
  split
  ·refine Sim.bind (sim_firstCells size n hs4) ?_
   intro χ w w' hl5 hw
   have ha5 := (((ha.mono hl2).mono hl3).mono hl4).mono hl5
   refine Sim.bind (sim_storeCells (ha5.add _) _ _ 0 hw.list) ?_
   intro ψ _ _ hl6 _
   exact .pure (.slice (ha5.mono hl6) _ _)
  ·refine Sim.bind sim_typeInfo ?_
   rintro χ i _ hl5 rfl
   split
   ·exact .dead (Dead.bind (dead_panic P _) _)
   ·refine Sim.bind sim_typeInfo ?_
    rintro ψ i2 _ hl6 rfl
    split
    ·refine .dead ?_
     refine Dead.bind (dead_mayShare _ _ _ _ _ fun c => ?_) _
     cases c <;> first | exact .halt _ | exact .mark (.halt _)
    ·exact append_grow hz size _ n l c (.slice (((((ha.mono hl2).mono hl3).mono hl4).mono hl5).mono hl6) l c) ((hs4.mono hl5).mono hl6)
 | _ => exact .halt
end
section
open Go
inductive NRel (ρ : BRel) : Next -> Next -> Prop
 | value {v v' : Value} (h : VRel ρ v v') : NRel ρ (.value v) (.value v')
 | skip : NRel ρ .skip .skip
 | enter (f : FuncId) (hn : niceF.contains f = true) {a a' : Array Value} (h : RowRel ρ a a') : NRel ρ (.enter f a) (.enter f a')
 | round {l l' : Nat} (h : ρ l l') (f : FuncId) {t t' : Array Value} (ht : RowRel ρ t t') (x y : Code) (hx : okC x = true) (hy : okC y = true) : NRel ρ (.round l f t x y) (.round l' f t' x y)
abbrev NR : BRel -> Next -> Next -> Prop := fun ρ x x' => NRel ρ x x'
theorem sim_value {P : Program} {ρ : BRel} {s s' : Sem Value} (h : Sim P VR ρ s s') : Sim P NR ρ (do pure (.value (<- s))) (do pure (.value (<- s'))) := Sim.bind h fun _ _ _ _ hv => .pure (.value hv)
theorem sim_unit {P : Program} {ρ : BRel} {s s' : Sem Unit} (h : Sim P UR ρ s s') : Sim P NR ρ (do s; pure .skip) (do s'; pure .skip) := Sim.bind h fun _ _ _ _ _ => .pure .skip
theorem dead_choose {α : Type} {P : Program} {q : Question} {f : Nat -> Sem α} (h : ∀ n, Dead P (f n)) : Dead P (choose q >>= f) := .choose h
theorem sim_makeSlice {P : Program} (OK : ProgOk P) {ρ : BRel} {t : TypeId} (ht : sliceT.contains t = true) {x x' y y' : Value} (hx : VRel ρ x x') (hy : VRel ρ y y') : Sim P VR ρ (Instr.makeSlice t x y) (Instr.makeSlice t x' y') := by
 obtain ⟨e, hu, hz⟩ := OK.slice t ht
 refine Sim.bind (sim_underlying hu) ?_
 rintro σ _ _ hl ⟨rfl, rfl⟩
 refine Sim.bind (sim_asInt (hx.mono hl)) ?_
 rintro τ n _ hl2 rfl
 refine Sim.bind (sim_asInt ((hy.mono hl).mono hl2)) ?_
 rintro υ m _ hl3 rfl
 refine Sim.bind sim_typeInfo ?_
 rintro ω i _ hl4 rfl
 have rest : ∀ (l c : Int), Sim P VR ω (do
   askRoom (c.toNat * i.bytes)
   let n := c.toNat * (<- sizeOf e)
   let zero <- if n = 0 then pure #[] else do pure (<- zeroValue e).cells
   let a <- newRow e ((Array.range n).map (zero[· % zero.size]!))
   pure (Value.slice (some a) l.toNat c.toNat)) (do
   askRoom (c.toNat * i.bytes)
   let n := c.toNat * (<- sizeOf e)
   let zero <- if n = 0 then pure #[] else do pure (<- zeroValue e).cells
   let a <- newRow e ((Array.range n).map (zero[· % zero.size]!))
   pure (Value.slice (some a) l.toNat c.toNat)) := by
  intro l c
  have hroom : Sim P UR ω (askRoom (c.toNat * i.bytes)) (askRoom (c.toNat * i.bytes)) := by
   unfold askRoom
   split
   ·exact .room (.pure trivial)
   ·exact .pure trivial
  refine Sim.bind hroom ?_
  rintro α _ _ _ _
  refine Sim.bind sim_sizeOf ?_
  rintro β k _ _ rfl
  have tail : ∀ (γ : BRel) (z z' : Array Value), RowRel γ z z' -> Sim P VR γ (do
    let a <- newRow e ((Array.range (c.toNat * k)).map (z[· % z.size]!))
    pure (Value.slice (some a) l.toNat c.toNat)) (do
    let a <- newRow e ((Array.range (c.toNat * k)).map (z'[· % z'.size]!))
    pure (Value.slice (some a) l.toNat c.toNat)) := by
   intro γ z z' hzz
   refine Sim.bind (sim_newRow e (RowRel.of_map _ _ _ fun x _ => ?_)) ?_
   ·rw [<- hzz.1]
    exact hzz.bang _
   ·intro δ a a' _ ha
    exact .pure (.slice ha _ _)
  dsimp only
  split
  ·exact tail β #[] #[] (RowRel.nil _)
  ·refine Sim.bind (sim_zero hz) ?_
   intro γ z z' _ hzz
   exact tail γ z.cells z'.cells hzz.cells
 dsimp only
 split
 ·refine .dead ?_
  split
  ·exact Dead.bind (dead_panic P _) _
  ·split
   ·exact Dead.bind (dead_panic P _) _
   ·exact dead_choose fun _ => Dead.bind (dead_panic P _) _
 ·exact rest _ _
theorem sim_ofValue {P : Program} {ρ : BRel} {x x' : Value} (hx : VRel ρ x x') {a a' : Array Value} {k k' : Deferred -> Sem Next}
  (hf : ∀ f, niceF.contains f = true -> ∀ fs fs' cs cs', RowRel ρ fs fs' -> RowRel ρ cs cs' -> Sim P NR ρ (k ⟨.fn (.func f) cs, fs ++ a⟩) (k' ⟨.fn (.func f) cs', fs' ++ a'⟩))
  (hy : ∀ l l', ρ l l' -> Sim P NR ρ (k ⟨.fn (.yield l) #[], #[] ++ a⟩) (k' ⟨.fn (.yield l') #[], #[] ++ a'⟩))
  (hn : Dead P (k ⟨.nil, a⟩)) (hi : Dead P (k ⟨.fn (.method "") #[], #[.nilIface] ++ a⟩)) : Sim P NR ρ (Deferred.ofValue x a >>= k) (Deferred.ofValue x' a' >>= k') := by
 cases hx with
 | func f hn fs fs' cs cs' h1 h2 h3 h4 => exact hf f hn fs fs' cs cs' ⟨h1, h3⟩ ⟨h2, h4⟩
 | yield h => exact hy _ _ h
 | nilFunc => exact .dead hn
 | idle v h => exact .dead hi
 | _ => exact .halt
theorem sim_callFunc {P : Program} (OK : ProgOk P) {ρ : BRel} {f : FuncId} (hn : niceF.contains f = true) {a a' : Array Value} (ha : RowRel ρ a a') : Sim P NR ρ (callFunc f a) (callFunc f a') := by
 obtain ⟨fn, b, h1, h2, h3, _⟩ := OK.funcs f hn
 unfold callFunc
 refine sim_with ?_
 rw [h1]
 dsimp only
 rw [h2, h3]
 exact .pure (.enter f hn ha)
theorem sim_getLoop {P : Program} {ρ : BRel} {l l' : Nat} (h : ρ l l') : Sim P (fun σ (x x' : Loop) => ORel σ (.loop x) (.loop x')) ρ (Instr.getLoop l) (Instr.getLoop l') := by
 refine .getObj h fun o o' ho => ?_
 cases ho with
 | loop s p fn h ps x y hx hy hp hd => exact .pure (.loop s p fn h ps x y hx hy hp hd)
 | _ => exact .halt
theorem zip_rel {ρ : BRel} : ∀ (ps : List Tmp) (l l' : List Value) (t t' : Array Value), LRel ρ l l' -> RowRel ρ t t' ->
  RowRel ρ ((ps.zip l).foldl (fun ts (q : Tmp × Value) => ts.setIfInBounds q.1 q.2) t) ((ps.zip l').foldl (fun ts (q : Tmp × Value) => ts.setIfInBounds q.1 q.2) t')
 | [], _, _, _, _, _, h => by simpa using h
 | _ :: _, _, _, _, _, .nil, h => by simpa using h
 | p :: ps, _, _, t, t', .cons hv ht, h => by
  simp only [List.zip_cons_cons, List.foldl_cons]
  exact zip_rel ps _ _ _ _ ht (h.set _ hv)
theorem sim_yield {P : Program} {ρ : BRel} {l l' : Nat} (h : ρ l l') {a a' : Array Value} (ha : RowRel ρ a a') : Sim P NR ρ (Instr.yield l a) (Instr.yield l' a') := by
 refine Sim.bind (sim_getLoop h) ?_
 intro σ x x' hl hx
 cases hx with
 | loop s p fn ht ps x y hx hy hp hd =>
  dsimp only
  rw [<- ha.1]
  split
  ·exact .halt
  ·refine .pure (.round (hl.1 _ _ h) fn ?_ x y hx hy)
   rw [<- Array.foldl_toList, <- Array.foldl_toList, Array.toList_zip, Array.toList_zip]
   exact zip_rel _ _ _ _ _ (ha.mono hl).list ht
theorem args_rel {ρ : BRel} {ev ev' : Operand -> Value} {xs : Array Operand} (hxs : xs.all okO = true) (hev : ∀ x, okO x = true -> VRel ρ (ev x) (ev' x)) : RowRel ρ (xs.map ev) (xs.map ev') := by
 refine RowRel.of_map _ _ _ fun x hx => hev x ?_
 exact Array.all_eq_true_iff_forall_mem.1 hxs x hx
theorem parts_rel {ρ : BRel} {ev ev' : Operand -> Value} {ps : Array (Nat × Operand)} (hps : ps.all (fun q => okO q.2) = true) (hev : ∀ x, okO x = true -> VRel ρ (ev x) (ev' x)) :
  PRel ρ (ps.map fun (i, x) => (i, ev x)).toList (ps.map fun (i, x) => (i, ev' x)).toList := by
 rw [Array.toList_map, Array.toList_map]
 refine PRel.map _ fun q hq => hev q.2 ?_
 exact Array.all_eq_true_iff_forall_mem.1 hps q (by simpa using hq)
theorem opt_rel {ρ : BRel} {ev ev' : Operand -> Value} {o : Option Operand} (ho : o.all okO = true) (hev : ∀ x, okO x = true -> VRel ρ (ev x) (ev' x)) : OVRel ρ (o.map ev) (o.map ev') := by
 refine OVRel.map o fun x hx => hev x ?_
 subst hx
 simpa using ho
theorem sim_callVal {P : Program} (OK : ProgOk P) {ρ : BRel} {x x' : Value} (hx : VRel ρ x x') {a a' : Array Value} (ha : RowRel ρ a a') :
  Sim P NR ρ (do let d <- Deferred.ofValue x a; invoke d.target d.args) (do let d <- Deferred.ofValue x' a'; invoke d.target d.args) := by
 refine sim_ofValue hx ?_ ?_ ?_ ?_
 ·intro f hn fs fs' cs cs' h1 h2
  exact sim_callFunc OK hn ((h1.append ha).append h2)
 ·intro l l' h
  exact sim_yield h ((RowRel.nil _).append ha)
 ·exact dead_panic P .nilDeref
 ·have e : (#[Value.nilIface] ++ a)[0]? = some .nilIface := by
   rw [Array.getElem?_append_left (by simp)]
   rfl
  show Dead P (do
   let some recv := (#[Value.nilIface] ++ a)[0]? | stuck "call: a method without a receiver"
   callMethod recv "" ((#[Value.nilIface] ++ a).extract 1 (#[Value.nilIface] ++ a).size))
  rw [e]
  exact dead_panic P .nilDeref
theorem sim_sizeIs {P : Program} {t : TypeId} {i : TypeInfo} (hi : P.info? t = some i) {ρ : BRel} : Sim P (fun _ n n' => n = i.size /\ n' = i.size) ρ (sizeOf t) (sizeOf t) := by
 unfold sizeOf typeInfo program
 refine .program ?_
 have e : ∀ g : TypeInfo -> Sem Nat, Sem.bind (match P.info? t with | some i => pure i | none => stuck "no such type") g = g i := fun g => by rw [hi]; rfl
 show Sim P _ ρ (Sem.bind (match P.info? t with | some i => pure i | none => stuck "no such type") fun i => pure i.size) (Sem.bind (match P.info? t with | some i => pure i | none => stuck "no such type") fun i => pure i.size)
 rw [e]
 exact .pure ⟨rfl, rfl⟩
theorem sim_fieldAt {P : Program} (OK : ProgOk P) {ρ : BRel} {t : TypeId} (ht : structT.contains t = true) {x x' : Value} (hx : VRel ρ x x') (k : Nat) : Sim P VR ρ (Instr.fieldAt t x k) (Instr.fieldAt t x' k) := by
 obtain ⟨fs, hu, hf⟩ := OK.struct t ht
 unfold Instr.fieldAt
 refine Sim.bind (sim_underlying hu) ?_
 rintro σ _ _ hl ⟨rfl, rfl⟩
 dsimp only
 cases hk : fs[k]? with
 | none => exact .halt
 | some f =>
  dsimp only
  refine Sim.bind (sim_sureAddr (hx.mono hl)) ?_
  intro τ a a' hl2 ha
  obtain ⟨i, hi, hs⟩ := hf k f hk
  refine Sim.bind (R := fun σ b b' => ARel σ b b') ?_ fun υ b b' _ hb => .pure (.ptr hb)
  unfold fieldPlace
  refine Sim.bind (sim_sizeIs hi) ?_
  rintro υ _ _ hl3 ⟨rfl, rfl⟩
  rw [if_neg hs, if_neg hs]
  exact .pure ((ha.mono hl3).add _)
theorem sim_arrayAt {P : Program} (OK : ProgOk P) {ρ : BRel} {t : TypeId} (ht : arrayT.contains t = true) {x x' : Value} (hx : VRel ρ x x') : Sim P VR ρ (Instr.arrayAt t x) (Instr.arrayAt t x') := by
 obtain ⟨n, e, hu⟩ := OK.array t ht
 unfold Instr.arrayAt
 refine Sim.bind (sim_underlying hu) ?_
 rintro σ _ _ hl ⟨rfl, rfl⟩
 have hx2 := hx.mono hl
 cases hx2 with
 | snil l c =>
  dsimp only
  split
  ·exact .dead (dead_panic P _)
  ·exact .pure .pnil
 | slice h l c =>
  dsimp only
  split
  ·exact .dead (dead_panic P _)
  ·exact .pure (.ptr h)
 | _ => exact .halt
theorem sim_nilCheck {P : Program} {ρ : BRel} {ev ev' : Operand -> Value} {o : Oper} {x : Operand} (hx : VRel ρ (ev x) (ev' x)) (ho : o.op = .nilCheck x) : Sim P NR ρ (execOp ev o) (execOp ev' o) := by
 unfold execOp
 rw [ho]
 dsimp only
 generalize ev x = a at hx
 generalize ev' x = a' at hx
 cases hx with
 | idle v h => exact .dead (dead_panic P .nilDeref)
 | pnil => exact .dead (dead_panic P .nilDeref)
 | nilFunc => exact .dead (dead_panic P .nilDeref)
 | cnil => exact .pure (.value .cnil)
 | chan r => exact .pure (.value (.chan r))
 | iface t h => exact .pure (.value (.iface t h))
 | bool b => exact .pure (.value (.bool b))
 | int k n => exact .pure (.value (.int k n))
 | string s => exact .pure (.value (.string s))
 | ptr h => exact .pure (.value (.ptr h))
 | snil l c => exact .pure (.value (.snil l c))
 | slice h l c => exact .pure (.value (.slice h l c))
 | func f hn fs fs' cs cs' hf hc h h' => exact .pure (.value (.func f hn fs fs' cs cs' hf hc h h'))
 | yield h => exact .pure (.value (.yield h))
 | agg cs cs' hc h => exact .pure (.value (.agg cs cs' hc h))
 | tuple cs cs' hc h => exact .pure (.value (.tuple cs cs' hc h))
theorem sim_eqGuard {P : Program} (OK : ProgOk P) {ρ : BRel} {op : BinOp} {t : TypeId} (hn : intT.contains t = true) (x y : Operand) {a a' b b' : Value} (ha : VRel ρ a a') (hb : VRel ρ b b') (h1 : a ≠ idle) (h2 : b ≠ idle) : Sim P UR ρ (eqGuard op t x y a b) (eqGuard op t x y a' b') := by
  obtain ⟨i, k, _, _, ht⟩ := OK.int t hn
  have hg : P.eqGuardType P.depth t = false := by
    show (match P.underlying t with | some (.interface ms) => !ms.isEmpty | some (.struct fs) => fs.any fun f => f.name != "_" && P.eqGuardType _ f.type | some (.array _ e) => P.eqGuardType _ e | _ => false) = false
    rw [ht]
  cases op <;> first
    | exact .pure trivial
    | (cases ha <;> first
        | exact absurd rfl h1
        | exact .pure trivial
        | (cases hb <;> first
            | exact absurd rfl h2
            | exact .pure trivial
            | (refine sim_with (sim_with ?_)
               rw [hg]
               exact .pure trivial)))
theorem dead_guard {P : Program} {op : BinOp} {t : TypeId} {x y : Operand} {a b : Value} {s : Sem Value} (h : a = idle \/ b = idle) (hs : Dead P s) : Dead P (do eqGuard op t x y a b; s) := by
 have e : eqGuard op t x y a b = pure () := by
  rcases h with rfl | rfl
  ·cases op <;> first | rfl | (cases b <;> rfl)
  ·cases op <;> first | rfl | (cases a <;> rfl)
 rw [e]
 exact hs
theorem sim_bin {P : Program} (OK : ProgOk P) {ρ : BRel} (F : Fine ρ) {op : BinOp} {t : TypeId} (hn : intT.contains t = true) (x y : Operand) {a a' b b' : Value} (ha : VRel ρ a a') (hb : VRel ρ b b') :
  Sim P VR ρ (do eqGuard op t x y a b; binOp op t a b) (do eqGuard op t x y a' b'; binOp op t a' b') := by
 obtain ⟨i, k, _, _, ht⟩ := OK.int t hn
 by_cases h1 : a = idle
 ·refine .dead (dead_guard (.inl h1) ?_)
  rw [h1]
  exact dead_binL ht op b
 by_cases h2 : b = idle
 ·refine .dead (dead_guard (.inr h2) ?_)
  rw [h2]
  exact dead_binR ht op a
 refine Sim.bind (sim_eqGuard OK hn x y ha hb h1 h2) ?_
 intro σ _ _ hl _
 exact sim_binOp OK (hl.2 F) hn (ha.mono hl) (hb.mono hl)
theorem sim_nilEq {P : Program} {ρ : BRel} {t e : TypeId} (hu : P.underlying t = some (.slice e)) {a a' : Value} (ha : VRel ρ a a') : Sim P EqR ρ (Op.equal t a (.slice none 0 0)) (Op.equal t a' (.slice none 0 0)) := by
 unfold Op.equal Op.maxDepth Op.equalIn
 refine Sim.bind (sim_underlying hu) ?_
 rintro σ _ _ hl ⟨rfl, rfl⟩
 have ha2 := ha.mono hl
 cases ha2 with
 | snil l c => exact .pure rfl
 | slice h l c => exact .pure rfl
 | _ => exact .halt
theorem sim_nilBin {P : Program} (OK : ProgOk P) {ρ : BRel} {op : BinOp} {t : TypeId} (hn : sliceT.contains t = true) (x y : Operand) (hy : isNilCmp op y = true) {a a' : Value} (ha : VRel ρ a a') :
  Sim P VR ρ (do eqGuard op t x y a (.slice none 0 0); binOp op t a (.slice none 0 0)) (do eqGuard op t x y a' (.slice none 0 0); binOp op t a' (.slice none 0 0)) := by
 obtain ⟨e, hu, _⟩ := OK.slice t hn
 have hop : op = .eql \/ op = .neq := by
  unfold isNilCmp at hy
  split at hy
  ·exact .inl rfl
  ·exact .inr rfl
  ·cases hy
 have hg : ∀ v, eqGuard op t x y v (.slice none 0 0) = pure () := by
  intro v
  rcases hop with rfl | rfl <;> cases v <;> rfl
 rw [hg, hg]
 show Sim P VR ρ (binOp op t a (.slice none 0 0)) (binOp op t a' (.slice none 0 0))
 have hb : ∀ v, binOp op t v (.slice none 0 0) = (Op.equal t v (.slice none 0 0) >>= fun b => pure (.bool (if op matches .eql then b else !b))) := by
  intro v
  rcases hop with rfl | rfl <;> cases v <;> rfl
 rw [hb, hb]
 refine Sim.bind (sim_nilEq hu ha) ?_
 rintro σ b _ _ rfl
 exact .pure (.bool _)
theorem okB_cases {b : Builtin} {ts : Array TypeId} (h : okB b ts = true) : (b = .len /\ ∃ t, ts[0]? = some t /\ sliceT.contains t = true) \/ ((b = .append \/ b = .copy) /\ ∃ t u, ts[0]? = some t /\ sliceT.contains t = true /\ ts[1]? = some u /\ sliceT.contains u = true) \/ b = .min \/ b = .max := by
 unfold okB at h
 cases b <;> first | cases h | skip
 case append =>
  dsimp only at h
  split at h
  ·rename_i t u h1 h2
   rw [Bool.and_eq_true] at h
   exact .inr (.inl ⟨.inl rfl, t, u, h1, h.1, h2, h.2⟩)
  ·cases h
 case copy =>
  dsimp only at h
  split at h
  ·rename_i t u h1 h2
   rw [Bool.and_eq_true] at h
   exact .inr (.inl ⟨.inr rfl, t, u, h1, h.1, h2, h.2⟩)
  ·cases h
 case len =>
  dsimp only at h
  split at h
  ·rename_i t h1
   exact .inl ⟨rfl, t, h1, h⟩
  ·cases h
 case max => exact .inr (.inr (.inr rfl))
 case min => exact .inr (.inr (.inl rfl))
theorem sim_op {P : Program} (OK : ProgOk P) {ρ : BRel} (F : Fine ρ) {o : Oper} (ho : okOp o.op = true) {ev ev' : Operand -> Value} (hev : ∀ x, okO x = true -> VRel ρ (ev x) (ev' x)) (hc : ∀ v, ev (.const v) = v /\ ev' (.const v) = v) : Sim P NR ρ (execOp ev o) (execOp ev' o) := by
 obtain ⟨dst, op, ty, pos, after, guard⟩ := o
 dsimp only at ho
 cases op <;> first | cases ho | skip
 case move x => exact .pure (.value (hev _ ho))
 case assign x => exact .pure (.value (hev _ ho))
 case pick c a b =>
  simp only [okOp, Bool.and_eq_true] at ho
  refine Sim.bind (sim_asBool (hev _ ho.1.1)) ?_
  rintro σ q _ hl rfl
  refine .pure (.value ?_)
  split
  ·exact (hev _ ho.1.2).mono hl
  ·exact (hev _ ho.2).mono hl
 case alloc t => exact sim_value (sim_alloc OK ho)
 case box t x => exact sim_value (sim_box (hev _ ho))
 case build t ps =>
  simp only [okOp, Bool.and_eq_true] at ho
  exact sim_value (sim_build OK ho.1.1 ho.1.2 (parts_rel ho.2 hev))
 case buildSlice t n ps =>
  simp only [okOp, Bool.and_eq_true] at ho
  exact sim_value (sim_buildSlice OK ho.1 n (parts_rel ho.2 hev))
 case load t a => exact sim_value (sim_loadAt (hev _ ho))
 case store t a v =>
  simp only [okOp, Bool.and_eq_true] at ho
  exact sim_unit (sim_storeAt (hev _ ho.1) (hev _ ho.2))
 case binOp op t x y u =>
  simp only [okOp, Bool.or_eq_true, Bool.and_eq_true] at ho
  rcases ho with ho | ho
  ·exact sim_value (sim_bin OK F ho.1.1.1 x y (hev _ ho.1.2) (hev _ ho.2))
  ·have hy : y = .const (.slice none 0 0) := by
    have := ho.1.2
    unfold isNilCmp at this
    split at this
    ·rfl
    ·rfl
    ·cases this
   have h1 := hc (.slice none 0 0)
   refine sim_value ?_
   rw [hy] at ho ⊢
   rw [h1.1, h1.2]
   exact sim_nilBin OK ho.1.1 x _ ho.1.2 (hev _ ho.2)
 case nilCheck x => exact sim_nilCheck (hev _ ho) rfl
 case fieldAddr t x f =>
  simp only [okOp, Bool.and_eq_true] at ho
  exact sim_value (sim_fieldAt OK ho.1 (hev _ ho.2) f)
 case sliceToArrayPointer t x =>
  simp only [okOp, Bool.and_eq_true] at ho
  exact sim_value (sim_arrayAt OK ho.1 (hev _ ho.2))
 case unOp op t x => exact sim_value (sim_unary op (hev _ ho))
 case convert s d x =>
  simp only [okOp, Bool.and_eq_true] at ho
  exact sim_value (sim_convert OK ho.1.1 ho.1.2 (hev _ ho.2))
 case makeInterface t x => exact sim_value (sim_makeInterface (hev _ ho))
 case makeFunc fn fs cs =>
  cases fn with
  | func f =>
   simp only [okOp, Bool.and_eq_true] at ho
   have h1 := args_rel ho.1.2 hev
   have h2 := args_rel ho.2 hev
   exact .pure (.value (.func f ho.1.1 _ _ _ _ h1.1 h2.1 h1.2 h2.2))
  | _ => cases ho
 case makeSlice t l c =>
  simp only [okOp, Bool.and_eq_true] at ho
  exact sim_value (sim_makeSlice OK ho.1.1 (hev _ ho.1.2) (hev _ ho.2))
 case slice t x lo hi mx =>
  simp only [okOp, Bool.and_eq_true] at ho
  exact sim_value (sim_sliceAt OK ho.1.1.1.1 (hev _ ho.1.1.1.2) (opt_rel ho.1.1.2 hev) (opt_rel ho.1.2 hev) (opt_rel ho.2 hev))
 case indexAddr t x i =>
  simp only [okOp, Bool.and_eq_true] at ho
  exact sim_value (sim_indexAt OK ho.1.1 (hev _ ho.1.2) (hev _ ho.2))
 case index t x i =>
  simp only [okOp, Bool.and_eq_true] at ho
  exact sim_value (sim_index OK ho.1.1 (hev _ ho.1.2) (hev _ ho.2))
 case extract x i => exact sim_value (sim_extract (hev _ ho) i)
 case panic x => exact sim_value (sim_panicOp (hev _ ho))
 case call c =>
  obtain ⟨callee, xs, ts⟩ := c
  cases callee with
  | invoke r m => cases ho
  | value f =>
   simp only [okOp, Bool.and_eq_true] at ho
   exact sim_callVal OK (hev _ ho.1) (args_rel ho.2 hev)
  | builtin b =>
   simp only [okOp, Bool.and_eq_true] at ho
   have hx := args_rel ho.2 hev
   rcases okB_cases ho.1 with ⟨rfl, t, h1, h2⟩ | ⟨rfl | rfl, t, u, h1, h2, h3, h4⟩ | rfl | rfl
   ·exact sim_value (sim_len OK h1 h2 hx)
   ·exact sim_value (sim_append OK h1 h2 h3 h4 hx)
   ·exact sim_value (sim_copy OK h1 h2 hx)
   ·exact sim_value (sim_min hx)
   ·exact sim_value (sim_max hx)
end
end Go.Proofs.YtdobjciaikofdaaGreatDoor
