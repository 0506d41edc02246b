/- Part 11 of 20 of what the proof of this law needs. Merged by merge.py out of: CoC CoD CoE CoF CoG. -/
import Derived.Test.YtfnncplokombgaaDoorShortChainsAll10
import Derived.Test.YtfnncplokombgaaDoorProg
import Derived.KernelRfl
import Derived.Test.YtfnncplokombgaaDoorTabShort
/- What a call does in company, out of what it does alone (29): a piece of a frame's code, walked alone, in company. -/
namespace Go.Proofs.YtfnncplokombgaaDoor
open Go Go.Conc

/-! ### a lone likeness of a company's world and frame -/
/-- the blocks of L, each itself -/
def idL (L : List Nat) : BRel := fun a b => a = b ∧ a ∈ L
theorem idL_fine {L : List Nat} (h : ∀ g, niceG.contains g = true → g ∈ L) : Fine (idL L) where
  left := fun _ _ _ h1 h2 => h1.1.symm.trans h2.1
  right := fun _ _ _ h1 h2 => h1.1.trans h2.1.symm
  low := fun _ _ h _ => h.1.symm
  high := fun _ _ h _ => h.1.symm
  tabs := fun g hg => ⟨rfl, h g hg⟩
theorem dull (ρ : BRel) : ∀ v' : Value, ∃ v, VRel ρ v v'
  | .bool b => ⟨_, .bool b⟩
  | .agg cs => by
    have h : ∀ i : Fin cs.size, ∃ v, VRel ρ v cs[i] := fun i => dull ρ cs[i]
    refine ⟨.agg (Array.ofFn fun i => (h i).choose), .agg _ _ (by simp) fun i h1 h2 => ?_⟩
    rw [Array.getElem_ofFn]
    exact (h ⟨i, h2⟩).choose_spec
  | .tuple cs => by
    have h : ∀ i : Fin cs.size, ∃ v, VRel ρ v cs[i] := fun i => dull ρ cs[i]
    refine ⟨.tuple (Array.ofFn fun i => (h i).choose), .tuple _ _ (by simp) fun i h1 h2 => ?_⟩
    rw [Array.getElem_ofFn]
    exact (h ⟨i, h2⟩).choose_spec
  | .int _ _ | .float _ _ | .complex _ _ _ | .string _ | .pointer _ | .slice _ _ _ | .map _ | .chan _ | .func _ _ _ | .nilFunc | .iface _ _ | .nilIface => ⟨idle, .idle _ rfl⟩
/-- a lone row beside the company's: the slots that are kept are the same -/
theorem dull_row (ρ : BRel) (T' : Array Value) (keep : Nat → Prop) (h : ∀ i v, keep i → T'[i]? = some v → VRel ρ v v) : ∃ T, RowRel ρ T T' ∧ ∀ i, keep i → T[i]? = T'[i]? := by
  have hx : ∀ i : Fin T'.size, ∃ v, VRel ρ v T'[i] ∧ (keep i → v = T'[i]) := by
    intro i
    by_cases hk : keep i
    · exact ⟨T'[i], h i _ hk (by simp), fun _ => rfl⟩
    · obtain ⟨v, hv⟩ := dull ρ T'[i]
      exact ⟨v, hv, fun hk' => absurd hk' hk⟩
  refine ⟨Array.ofFn fun i => (hx i).choose, ⟨by simp, fun i h1 h2 => ?_⟩, fun i hk => ?_⟩
  · rw [Array.getElem_ofFn]
    exact (hx ⟨i, h2⟩).choose_spec.1
  · by_cases hi : i < T'.size
    · rw [Array.getElem?_eq_getElem hi, Array.getElem?_eq_getElem (by simpa using hi), Array.getElem_ofFn]
      exact congrArg some ((hx ⟨i, hi⟩).choose_spec.2 hk)
    · rw [Array.getElem?_eq_none (by rw [Array.size_ofFn]; omega), Array.getElem?_eq_none (by omega)]
/-- a row's likeness: each value that may be likened to itself, as it is -/
theorem meek_ex (L : List Nat) (c : Array Value) : ∃ T, RowRel (idL L) T c ∧ ∀ i : Nat, (∀ v, c[i]? = some v → VRel (idL L) v v) → T[i]? = c[i]? := dull_row (idL L) c (fun i : Nat => ∀ v, c[i]? = some v → VRel (idL L) v v) fun _ v hk hv => hk v hv
noncomputable def meek (L : List Nat) (c : Array Value) : Array Value := (meek_ex L c).choose
theorem meek_rel (L : List Nat) (c : Array Value) : RowRel (idL L) (meek L c) c := (meek_ex L c).choose_spec.1
theorem meek_get {L : List Nat} {c : Array Value} {i : Nat} {v : Value} (h : c[i]? = some v) (hv : VRel (idL L) v v) : (meek L c)[i]? = some v := by
  exact ((meek_ex L c).choose_spec.2 i fun v' h' => by rw [h] at h'; cases h'; exact hv).trans h
theorem meek_all {L : List Nat} {c : Array Value} (h : ∀ v ∈ c, VRel (idL L) v v) : meek L c = c := by
  apply Array.ext_getElem?
  intro i
  exact (meek_ex L c).choose_spec.2 i fun v hv => h v (Array.mem_of_getElem? hv)
noncomputable def iceObj (L : List Nat) (fz : Bool) : Obj → Obj
  | .cells c e (_, hi) => .cells (meek L c) e (if fz then (0, max c.size hi) else (0, 0))
  | o => o
/-- the lone likeness: the blocks of Ls frozen whole -/
noncomputable def ice (L Ls : List Nat) (w : World) : World := { w with heap := w.heap.mapIdx fun b o => if L.contains b then iceObj L (Ls.contains b) o else o }
theorem ice_size (L Ls : List Nat) (w : World) : (ice L Ls w).heap.size = w.heap.size := by simp [ice]
theorem ice_get (L Ls : List Nat) (w : World) (b : Nat) : (ice L Ls w).heap[b]? = (w.heap[b]?).map fun o => if L.contains b then iceObj L (Ls.contains b) o else o := by simp [ice, Array.getElem?_mapIdx]
theorem ice_out {L Ls : List Nat} {w : World} {b : Nat} (h : b ∉ L) : (ice L Ls w).heap[b]? = w.heap[b]? := by
  rw [ice_get]
  simp [h]
theorem ice_cells (L Ls : List Nat) {w : World} {b : Nat} {c : Array Value} {e : TypeId} {fr : Nat × Nat} (hb : b ∈ L) (h : w.heap[b]? = some (.cells c e fr)) : ∃ fr', (ice L Ls w).heap[b]? = some (.cells (meek L c) e fr') ∧ (b ∉ Ls → fr' = (0, 0)) ∧ (b ∈ Ls → fr' = (0, max c.size fr.2)) := by
  rw [ice_get, h]
  have hb' : L.contains b = true := by simpa using hb
  obtain ⟨lo, hi⟩ := fr
  by_cases hs : b ∈ Ls
  · exact ⟨(0, max c.size hi), by simp [hb, hs, iceObj], fun h => absurd hs h, fun _ => rfl⟩
  · exact ⟨(0, 0), by simp [hb, hs, iceObj], fun _ => rfl, fun h => absurd h hs⟩
theorem ice_row (L Ls : List Nat) {w : World} {b : Nat} {c : Array Value} {e : TypeId} {fr : Nat × Nat} (hb : b ∈ L) (hs : b ∉ Ls) (h : w.heap[b]? = some (.cells c e fr)) (hv : ∀ v ∈ c, VRel (idL L) v v) : (ice L Ls w).heap[b]? = some (.cells c e (0, 0)) := by
  obtain ⟨fr', h1, h2, _⟩ := ice_cells L Ls hb h
  rw [meek_all hv, h2 hs] at h1
  exact h1
theorem ice_cell (L Ls : List Nat) {w : World} {a : Addr} {v : Value} (h : w.cell? a = some v) (hv : VRel (idL L) v v) : (ice L Ls w).cell? a = some v := by
  obtain ⟨c, e, fr, h1, h2, h3⟩ := cell_parts h
  by_cases hb : a.block ∈ L
  · obtain ⟨fr', h4, _⟩ := ice_cells L Ls hb h1
    unfold World.cell?
    rw [h4]
    simp only [h2]
    exact meek_get h3 hv
  · unfold World.cell? at h ⊢
    rw [ice_out hb]
    exact h
theorem ice_stiff {L Ls : List Nat} {w : World} {b : Nat} {c : Array Value} {e : TypeId} {fr : Nat × Nat} (h : w.heap[b]? = some (.cells c e fr)) (hl : b ∈ L) (hb : b ∈ Ls) : Stiff (ice L Ls w) b := by
  obtain ⟨fr', h1, _, h2⟩ := ice_cells L Ls hl h
  rw [h2 hb] at h1
  exact ⟨_, e, _, h1, by rw [(meek_rel L c).1]; exact Nat.le_max_left _ _⟩
/-- a block of cells -/
def Tame (w : World) (b : Nat) : Prop := ∃ c e fr, w.heap[b]? = some (.cells c e fr)
theorem ice_rel {L Ls : List Nat} {w : World} (h0 : ∀ g, niceG.contains g = true → g ∈ L) (ht : ∀ b ∈ L, Tame w b) (hth : ∀ b ∈ L, b ∉ Ls → ∀ off, w.frozen? ⟨b, off, none⟩ = false) : HRel (idL L) (ice L Ls w) w where
  fine := idL_fine h0
  many := by
    obtain ⟨_, _, _, h⟩ := ht 2 (h0 2 rfl)
    have := (Array.getElem?_eq_some_iff.1 h).1
    rw [ice_size]
    exact ⟨this, this⟩
  objs := fun b b' hb => by
    obtain ⟨rfl, hb⟩ := hb
    obtain ⟨c, e, fr, h⟩ := ht b hb
    obtain ⟨fr', h', _⟩ := ice_cells L Ls hb h
    exact ⟨_, _, h', h, .cells (meek_rel L c) e fr' fr⟩
  thaw := fun b b' off hb hf => by
    obtain ⟨rfl, hb⟩ := hb
    obtain ⟨c, e, fr, h⟩ := ht b hb
    obtain ⟨fr', h1, h2, h3⟩ := ice_cells L Ls hb h
    by_cases hs : b ∈ Ls
    · unfold World.frozen? at hf ⊢
      dsimp only at hf ⊢
      rw [h1, h3 hs] at hf
      rw [h]
      obtain ⟨lo, hi⟩ := fr
      simp at hf ⊢
      omega
    · exact hth b hb hs off
/-! ### what is fixed -/
/-- a value that the relation leaves no choice -/
def Fixed (σ : BRel) (v : Value) : Prop := ∀ v', VRel σ v v' → v' = v
theorem fixed_int (σ : BRel) (k : IntKind) (n : Int) : Fixed σ (.int k n) := fun v' h => by cases h; rfl
theorem fixed_bool (σ : BRel) (b : Bool) : Fixed σ (.bool b) := fun v' h => by cases h; rfl
theorem fixed_chan (σ : BRel) (r : Nat) : Fixed σ (.chan (some r)) := fun v' h => by cases h; rfl
theorem fixed_nil (σ : BRel) (l c : Nat) : Fixed σ (.slice none l c) := fun v' h => by cases h; rfl
theorem fixed_ptr {σ : BRel} (F : Fine σ) {a : Addr} (h : σ a.block a.block) : Fixed σ (.pointer (some a)) := fun v' hv => by
  cases hv with
  | ptr ha =>
    cases ha with
    | mk hb o s =>
      have := F.left _ _ _ hb h
      dsimp only at this
      rw [this]
theorem fixed_slice {σ : BRel} (F : Fine σ) {a : Addr} (h : σ a.block a.block) (l c : Nat) : Fixed σ (.slice (some a) l c) := fun v' hv => by
  cases hv with
  | slice ha =>
    cases ha with
    | mk hb o s =>
      have := F.left _ _ _ hb h
      dsimp only at this
      rw [this]
theorem fixed_agg {σ : BRel} {cs : Array Value} (h : ∀ v ∈ cs, Fixed σ v) : Fixed σ (.agg cs) := fun v' hv => by
  cases hv with
  | agg _ cs' hc hx =>
    congr 1
    refine Array.ext hc.symm fun i h1 h2 => h _ (Array.getElem_mem h2) _ (hx i h2 h1)
theorem fixed_tuple {σ : BRel} {cs : Array Value} (h : ∀ v ∈ cs, Fixed σ v) : Fixed σ (.tuple cs) := fun v' hv => by
  cases hv with
  | tuple _ cs' hc hx =>
    congr 1
    refine Array.ext hc.symm fun i h1 h2 => h _ (Array.getElem_mem h2) _ (hx i h2 h1)
/-- a slot of the company's, from the lone one's -/
theorem RowRel.fixed {σ : BRel} {T T' : Array Value} (h : RowRel σ T T') {i : Nat} {v : Value} (hv : T[i]? = some v) (hf : Fixed σ v) : T'[i]? = some v := by
  obtain ⟨v', e, hr⟩ := h.get hv
  rw [e, hf v' hr]
/-- a block of the company's, from the lone one's -/
theorem HRel.fixed {σ : BRel} {W w : World} (H : HRel σ W w) {b b' : Nat} (hb : σ b b') {c : Array Value} {e : TypeId} {fr : Nat × Nat} (hW : W.heap[b]? = some (.cells c e fr)) (hf : ∀ v ∈ c, Fixed σ v) : ∃ fr', w.heap[b']? = some (.cells c e fr') := by
  obtain ⟨o, o', h1, h2, h3⟩ := H.objs b b' hb
  rw [hW] at h1
  obtain rfl := Option.some.inj h1
  cases h3 with
  | cells hr _ _ fr' =>
    rename_i c'
    refine ⟨fr', ?_⟩
    rw [h2]
    have : c' = c := Array.ext hr.1.symm fun i h1 h2 => hf _ (Array.getElem_mem h2) _ (hr.2 i h2 h1)
    rw [this]
/-- a row of the company's, none of it frozen -/
def RowC (w : World) (b : Nat) (c : Array Value) (e : TypeId) : Prop := (∃ fr, w.heap[b]? = some (.cells c e fr)) ∧ ∀ off, w.frozen? ⟨b, off, none⟩ = false
theorem HRel.rowC {σ : BRel} {W w : World} (H : HRel σ W w) {b b' : Nat} (hb : σ b b') {c : Array Value} {e : TypeId} (hW : W.heap[b]? = some (.cells c e (0, 0))) (hf : ∀ v ∈ c, Fixed σ v) : RowC w b' c e :=
  ⟨H.fixed hb hW hf, fun off => H.thaw b b' off hb (by unfold World.frozen?; rw [hW]; simp)⟩
theorem RowC.of_eq {w w1 : World} {b : Nat} {c : Array Value} {e : TypeId} (h : RowC w b c e) (he : w1.heap[b]? = w.heap[b]?) : RowC w1 b c e := by
  refine ⟨by rw [he]; exact h.1, fun off => ?_⟩
  have := h.2 off
  unfold World.frozen? at this ⊢
  dsimp only at this ⊢
  rw [he]
  exact this
theorem RowC.tame {w : World} {b : Nat} {c : Array Value} {e : TypeId} (h : RowC w b c e) : Tame w b := by
  obtain ⟨⟨fr, h⟩, _⟩ := h
  exact ⟨c, e, fr, h⟩
/-! ### a piece -/
/-- an item that names no loop -/
def selfI : Item → Bool
  | .code _ | .inBlock _ | .inLoop _ | .inScope _ | .inRegion _ _ | .beginRound => true
  | _ => false
theorem self_rel {x : Item} (h : selfI x = true) (ρ : BRel) : IRel ρ x x := by
  cases x <;> first | (cases h; done) | constructor
theorem self_eq {ρ : BRel} {x x' : Item} (h : selfI x = true) (hr : IRel ρ x x') : x' = x := by
  cases hr <;> first | rfl | cases h
theorem self_list {ρ : BRel} {low l l' : List Item} (h : ILRel ρ low l l') (hs : l.all selfI = true) : l' = l ++ low := by
  induction h with
  | nil => rfl
  | cons hx _ ih =>
    rw [List.all_cons, Bool.and_eq_true] at hs
    rw [self_eq hs.1 hx, ih hs.2]
    rfl
theorem list_self {low : List Item} (ρ : BRel) : ∀ {l : List Item}, l.all selfI = true → ILRel ρ low l (l ++ low)
  | [], _ => .nil
  | x :: l, h => by
    rw [List.all_cons, Bool.and_eq_true] at h
    exact .cons (self_rel h.1 ρ) (list_self ρ h.2)
/-- ████ A PIECE OF A FRAME'S CODE, WALKED ALONE, IN COMPANY ████ -/
theorem piece {P : Program} (OK : ProgOk P) {m : Bool} {S : BSet} {X : BSet → Goroutine → World → Prop} (hX : Closed P m S X) (L Ls : List Nat) {w : World} {O : BSet} (h0 : ∀ g, niceG.contains g = true → g ∈ L) (ht : ∀ b ∈ L, Tame w b) (hO : ∀ b ∈ L, O b ∨ (S b ∧ b ∈ Ls)) (hth : ∀ b ∈ L, b ∉ Ls → ∀ off, w.frozen? ⟨b, off, none⟩ = false)
    {b lb : Frame} (hfn : lb.fn = b.fn) (hlk : lb.kind = .normal) {T T' : Array Value} (hT : RowRel (idL L) T T') {xs ys k : List Item} {ds : List Deferred} {cs' : List Frame} (hk : (ds = [] → b.kind = .normal) ∧ (ds ≠ [] → b.kind = .deferred)) (hx : xs.all okI = true) (hxs : xs.all selfI = true) (hys : ys.all selfI = true) (Q : Array Value → Array Obj → Prop)
    (hE : ∀ W : World, W.heap = (ice L Ls w).heap → ∃ TE WE, Steps P (lone (lb.at ⟨T, []⟩ xs) [sent P] W) (lone (lb.at ⟨TE, []⟩ ys) [sent P] WE) ∧ Q TE WE.heap)
    (cont : ∀ (σ : BRel) (O1 : BSet) (TE TE' : Array Value) (WE wE : World), Path (idL L) σ O S O1 (ice L Ls w) WE w wE → RowRel σ TE TE' → HRel σ WE wE → Img σ O1 S WE → Q TE WE.heap → X O1 (G (b.at ⟨TE', ds⟩ (ys ++ k)) cs') wE) :
    X O (G (b.at ⟨T', ds⟩ (xs ++ k)) cs') w := by
  have H := ice_rel (Ls := Ls) h0 ht hth
  have F : FRel (idL L) k ds (lb.at ⟨T, []⟩ xs) (b.at ⟨T', ds⟩ (xs ++ k)) := ⟨hfn.symm, ⟨fun h => (hk.1 h).trans hlk.symm, hk.2⟩, hT, list_self _ hxs, ⟨[], rfl, .nil⟩, .inl ⟨rfl, rfl⟩, .none⟩
  have SR : SRel P (idL L) ⟨k, ds, cs'⟩ (lb.at ⟨T, []⟩ xs) [sent P] (b.at ⟨T', ds⟩ (xs ++ k)) cs' := .base (low := ⟨k, ds, cs'⟩) F hlk rfl
  have ok : OkS P (lb.at ⟨T, []⟩ xs) [sent P] := ⟨hx, fun c hc => .inl (by simpa using hc)⟩
  let Stop : Frame → World → Prop := fun fr W => ∃ TE, fr = lb.at ⟨TE, []⟩ ys ∧ Q TE W.heap
  have hpc : ∀ fr w, Stop fr w → if true = true then fr.mode = .run else ((⟨k, ds, cs'⟩ : Low).todo = [] ∧ fr.mode = .returning) := by
    rintro fr w ⟨TE, rfl, _⟩
    rw [if_pos rfl]
    rfl
  have hEnds : Ends P Stop (lb.at ⟨T, []⟩ xs) [sent P] (ice L Ls w) := by
    intro tp _
    obtain ⟨TE, WE, ⟨n, hn⟩, hq⟩ := hE { ice L Ls w with tape := tp } rfl
    exact ⟨n, _, _, hn, TE, rfl, hq⟩
  have hR := road_of OK (low := ⟨k, ds, cs'⟩) true hpc ⟨_, _, _, _, SR, H, ok⟩ hEnds
  refine follow OK (low := ⟨k, ds, cs'⟩) true m hX hpc hR hEnds SR H ok (fun a b' hab => ?_) ?_
  · obtain ⟨rfl, hab⟩ := hab
    rcases hO a hab with h | ⟨h, hl⟩
    · exact ⟨fun _ => h, fun _ => .inl h⟩
    · obtain ⟨c, e, fr, hc⟩ := ht a hab
      exact ⟨fun hn => absurd (ice_stiff hc hab hl) hn, fun _ => .inr h⟩
  · rintro σ O1 frE frE' csE' WE wE p hS hH hI ⟨tp, TE, rfl, hq⟩
    rcases hS.cases1 with ⟨_, _, hF⟩ | ⟨hl, _⟩
    · have hcs : csE' = cs' := by
        cases hS with
        | base => rfl
        | up h1 h2 h3 h4 t => cases t
      have e : frE' = b.at ⟨frE'.tmps, ds⟩ (ys ++ k) := by
        obtain ⟨f1, f2, f3, f4, ⟨d, f5, f6⟩, f7, f8⟩ := hF
        obtain ⟨fn, tmps, todo, defers, mode, kind, roundOf⟩ := frE'
        dsimp only [Frame.at] at f1 f2 f3 f4 f5 f6 f7 f8 ⊢
        have e1 := self_list f4 hys
        have e2 : d = [] := by cases f6; rfl
        have e3 : mode = .run := by
          rcases f7 with ⟨_, h⟩ | ⟨h, _⟩
          · exact h
          · cases h
        have e4 : roundOf = none := by cases f8; rfl
        have e5 : kind = b.kind := by
          by_cases hd : ds = []
          · rw [f2.1 hd, hk.1 hd]
            exact hlk
          · rw [f2.2 hd, hk.2 hd]
        rw [f1, e1, f5, e2, e3, e4, e5, hfn]
        rfl
      rw [hcs, e]
      exact cont σ O1 TE _ WE wE p hF.tmps hH hI hq
    · exact absurd rfl hl
end Go.Proofs.YtfnncplokombgaaDoor

/- What a call does in company, out of what it does alone (30): the program is borne. -/
namespace Go.Proofs.YtfnncplokombgaaDoor
open Go Go.Conc

def intB (P : Program) (t : TypeId) : Bool :=
  match P.info? t, P.underlying t with
  | some i, some (.int k) => match i.desc with | .int k' => k' == k | _ => false
  | _, _ => false
def sliceB (P : Program) (t : TypeId) : Bool := match P.underlying t with | some (.slice e) => zeroFlat P e | _ => false
def arrayB (P : Program) (t : TypeId) : Bool := match P.underlying t with | some (.array _ _) => true | _ => false
def funcB (P : Program) (f : FuncId) : Bool := match P.funcs[f]? with | some fn => !(fn.name == "runtime.NumGoroutine") && (match fn.body with | some b => okC b | none => false) | none => false
theorem all_of {α : Type} [BEq α] [LawfulBEq α] {l : List α} {p : α → Bool} (h : l.all p = true) (x : α) (hx : l.contains x = true) : p x = true := by
  rw [List.all_eq_true] at h
  exact h x (by simpa using hx)
theorem progOk_of {P : Program} (h1 : flatT.all (zeroFlat P) = true) (h2 : intT.all (intB P) = true) (h3 : sliceT.all (sliceB P) = true) (h4 : arrayT.all (arrayB P) = true) (h5 : niceF.all (funcB P) = true) (h6 : P.globals.size = nGlob) : ProgOk P where
  flat := all_of h1
  int := fun t ht => by
    have := all_of h2 t ht
    unfold intB at this
    split at this
    · rename_i i k e1 e2
      split at this
      · rename_i k' e3
        have : k' = k := by simpa using this
        subst this
        exact ⟨i, k', e1, e3, e2⟩
      · cases this
    · cases this
  slice := fun t ht => by
    have := all_of h3 t ht
    unfold sliceB at this
    split at this
    · exact ⟨_, by assumption, this⟩
    · cases this
  array := fun t ht => by
    have := all_of h4 t ht
    unfold arrayB at this
    split at this
    · exact ⟨_, _, by assumption⟩
    · cases this
  funcs := fun f hf => by
    have := all_of h5 f hf
    unfold funcB at this
    split at this
    · rename_i fn e
      rw [Bool.and_eq_true] at this
      obtain ⟨k1, k2⟩ := this
      split at k2
      · rename_i b e2
        exact ⟨fn, b, e, by simpa using k1, e2, k2⟩
      · cases k2
    · cases this
  globs := h6
theorem progOk : ProgOk Tryd.prog := progOk_of (by kernel_rfl) (by kernel_rfl) (by kernel_rfl) (by kernel_rfl) (by kernel_rfl) (by kernel_rfl)
end Go.Proofs.YtfnncplokombgaaDoor

/- What a call does in company, out of what it does alone (31): rules for pieces, for single moves, alone and in company. -/
namespace Go.Proofs.YtfnncplokombgaaDoor
open Go Go.Conc

/-! ### lone runs -/
theorem steps_wp {P : Program} {c : Code} {R : Array Value → Array Obj → Prop} {a : Act} {W : World} (h : c.wp P (fun e a' w' => e = .normal ∧ a'.defers = [] ∧ R a'.tmps w'.heap) a W) (lb : Frame) (cs : List Frame) :
    ∃ TE WE, Steps P (lone (lb.at a [.code c]) cs W) (lone (lb.at ⟨TE, []⟩ []) cs WE) ∧ R TE WE.heap := by
  obtain ⟨e, a', w', ⟨rfl, h1, h2⟩, h3⟩ := h lb [] cs
  obtain ⟨T, d⟩ := a'
  dsimp only at h1 h2
  subst h1
  exact ⟨T, w', h3, h2⟩
theorem stepG_lone {P : Program} {fr fr' : Frame} {cs cs' : List Frame} {w w' : World} {es : Array Event} (h : stepG P true (G fr cs) w = .go (G fr' cs') w' es) : Steps P (lone fr cs w) (lone fr' cs' w') := Steps.one (stepG_next h)
theorem steps_call {P : Program} {lb : Frame} (hk : lb.kind = .normal) {a : Act} {ops : Array Oper} {i : Nat} {rest : List Nat} {k : List Item} {o : Oper} {f : FuncId} {xs : Array Operand} {ats : Array TypeId} {cs : List Frame} {W : World} {v : Value} {R : World → Prop}
    (ho : ops[i]? = some o) (hw : Region.wanted o (yielded ops a.tmps) = true) (hr : (execOp a.eval o).run P W = .ok (.enter f (xs.map a.eval)) W) (_hop : o.op = .call { callee := .value (.func f), args := xs, argTypes := ats })
    (h : Calls P f (xs.map a.eval) W fun e w' => e = .returned v ∧ R w') : ∃ W', Steps P (lone (lb.at a (.inRegion ops (i :: rest) :: k)) cs W) (lone (lb.at (a.put o.dst v) (.inRegion ops rest :: k)) cs W') ∧ R W' := by
  have hk' : lb.kind ≠ .early := by rw [hk]; intro x; cases x
  obtain ⟨e, w', fr, ⟨rfl, hR⟩, h2, h3, h4⟩ := h (lb.at a (.inRegion ops (i :: rest) :: k) :: cs)
  refine ⟨w', ?_, hR⟩
  have h5 := stepG_lone (stepG_enter (P := P) (main := true) (rest := rest) (k := k) (cs := cs) ho hw hk' hr)
  have h6 : Steps P (lone (Frame.enter P f (xs.map a.eval) .normal) (lb.at a (.inRegion ops (i :: rest) :: k) :: cs) W) (lone fr (lb.at a (.inRegion ops (i :: rest) :: k) :: cs) w') := h2
  have h7 := Steps.one (step_leave_returned (c := lb.at a (.inRegion ops (i :: rest) :: k)) (cs := cs) h4)
  rw [Frame.finish_at, ho] at h7
  exact h5.trans (h6.trans h7)

/-! ### a piece of code -/
/-- blocks that a piece may meet -/
structure Meet (S : BSet) (O : BSet) (L Ls : List Nat) (w : World) : Prop where
  tabs : ∀ g, niceG.contains g = true → g ∈ L
  tame : ∀ b ∈ L, Tame w b
  own : ∀ b ∈ L, O b ∨ (S b ∧ b ∈ Ls)
  thaw : ∀ b ∈ L, b ∉ Ls → ∀ off, w.frozen? ⟨b, off, none⟩ = false
section
variable {P : Program} {m : Bool} {S : BSet} {X : BSet → Goroutine → World → Prop}
theorem run_piece (OK : ProgOk P) (hX : Closed P m S X) (L Ls : List Nat) (keep : Nat → Prop) {w : World} {O : BSet} (M : Meet S O L Ls w) {b : Frame} {T' : Array Value} (hT : ∀ i v, keep i → T'[i]? = some v → VRel (idL L) v v) {xs ys k : List Item} {ds : List Deferred} {cs' : List Frame}
    (hk : (ds = [] → b.kind = .normal) ∧ (ds ≠ [] → b.kind = .deferred)) (hx : xs.all okI = true) (hxs : xs.all selfI = true) (hys : ys.all selfI = true) (R : Array Value → Array Obj → Prop)
    (hE : ∀ (T : Array Value) (W : World) (lb : Frame), lb.fn = b.fn → lb.kind = .normal → T.size = T'.size → (∀ i, keep i → T[i]? = T'[i]?) → W.heap = (ice L Ls w).heap → ∃ TE WE, Steps P (lone (lb.at ⟨T, []⟩ xs) [sent P] W) (lone (lb.at ⟨TE, []⟩ ys) [sent P] WE) ∧ R TE WE.heap)
    (cont : ∀ (σ : BRel) (O1 : BSet) (TE TE' : Array Value) (WE wE : World), Path (idL L) σ O S O1 (ice L Ls w) WE w wE → RowRel σ TE TE' → HRel σ WE wE → Img σ O1 S WE → R TE WE.heap → X O1 (G (b.at ⟨TE', ds⟩ (ys ++ k)) cs') wE) :
    X O (G (b.at ⟨T', ds⟩ (xs ++ k)) cs') w := by
  obtain ⟨T, hT1, hT2⟩ := dull_row (idL L) T' keep hT
  exact piece OK hX L Ls M.tabs M.tame M.own M.thaw (b := b) (lb := { b with kind := .normal }) rfl rfl hT1 hk hx hxs hys R (fun W hW => hE T W _ rfl rfl hT1.1 hT2 hW) cont
theorem code_piece (OK : ProgOk P) (hX : Closed P m S X) (L Ls : List Nat) (keep : Nat → Prop) {w : World} {O : BSet} (M : Meet S O L Ls w) {b : Frame} {T' : Array Value} (hT : ∀ i v, keep i → T'[i]? = some v → VRel (idL L) v v) {c : Code} {k : List Item} {ds : List Deferred} {cs' : List Frame}
    (hk : (ds = [] → b.kind = .normal) ∧ (ds ≠ [] → b.kind = .deferred)) (hc : okC c = true) (R : Array Value → Array Obj → Prop)
    (hE : ∀ (T : Array Value) (W : World), T.size = T'.size → (∀ i, keep i → T[i]? = T'[i]?) → W.heap = (ice L Ls w).heap → c.wp P (fun e a' w' => e = .normal ∧ a'.defers = [] ∧ R a'.tmps w'.heap) ⟨T, []⟩ W)
    (cont : ∀ (σ : BRel) (O1 : BSet) (TE TE' : Array Value) (WE wE : World), Path (idL L) σ O S O1 (ice L Ls w) WE w wE → RowRel σ TE TE' → HRel σ WE wE → Img σ O1 S WE → R TE WE.heap → X O1 (G (b.at ⟨TE', ds⟩ k) cs') wE) :
    X O (G (b.at ⟨T', ds⟩ (.code c :: k)) cs') w :=
  run_piece (xs := [.code c]) (ys := []) OK hX L Ls keep M hT hk (by simp [okI, hc]) rfl rfl R (fun T W lb _ _ h1 h2 h3 => steps_wp (hE T W h1 h2 h3) lb _) cont

/-! ### single moves -/
theorem grown_self (O : BSet) (w : World) : grown O w w = O := by
  funext b
  apply propext
  unfold grown
  constructor
  · rintro (h | ⟨h1, h2⟩)
    · exact h
    · omega
  · exact .inl
theorem Guar.refl (O : BSet) (w : World) : Guar O S w w #[] := ⟨rfl, rfl, rfl, Nat.le_refl _, fun _ _ _ => rfl, fun e he => by simp at he⟩
/-- what holds of the world whatever the others do -/
def Stab (S : BSet) (I : BSet → World → Prop) : Prop := ∀ O w w1, I O w → Rely O S w w1 → I O w1
/-- X holds here, wherever I holds -/
def All (X : BSet → Goroutine → World → Prop) (I : BSet → World → Prop) (g : Goroutine) : Prop := ∀ O w, I O w → X O g w
theorem All.ctl (hX : Closed P m S X) {I : BSet → World → Prop} (hI : Stab S I) {fr fr' : Frame} {cs cs' : List Frame} (hs : ∀ w, stepG P m (G fr cs) w = .go (G fr' cs') w #[]) (h : All X I (G fr' cs')) : All X I (G fr cs) := by
  intro O w hi
  refine hX O _ w rfl fun w1 R => ⟨_, _, _, hs w1, Guar.refl O w1, ?_⟩
  rw [grown_self]
  exact h O w1 (hI O w w1 hi R)
theorem All.act (hX : Closed P m S X) {I : BSet → World → Prop} (hI : Stab S I) {fr : Frame} {cs : List Frame} (hs : ∀ O w, I O w → ∃ g' w' es, stepG P m (G fr cs) w = .go g' w' es ∧ Guar O S w w' es ∧ X (grown O w w') g' w') : All X I (G fr cs) := by
  intro O w hi
  exact hX O _ w rfl fun w1 R => hs O w1 (hI O w w1 hi R)
/-- an operation that yields a value, and touches nothing -/
theorem All.val (hX : Closed P m S X) {I : BSet → World → Prop} (hI : Stab S I) {b : Frame} {a : Act} {ops : Array Oper} {i : Nat} {rest : List Nat} {k : List Item} {cs : List Frame} {o : Oper} (v : Value) (ho : ops[i]? = some o) (hw : Region.wanted o (yielded ops a.tmps) = true) (hk : b.kind ≠ .early)
    (hr : ∀ w, (execOp a.eval o).run P w = .ok (.value v) w) (he : ∀ w, (execOp a.eval o).events P w #[] = #[]) (h : All X I (G (b.at (a.put o.dst v) (.inRegion ops rest :: k)) cs)) : All X I (G (b.at a (.inRegion ops (i :: rest) :: k)) cs) :=
  All.ctl hX hI (fun w => by rw [stepG_value ho hw hk (hr w)]; unfold listed; rw [he w, seen_none]) h
end
end Go.Proofs.YtfnncplokombgaaDoor

/- What a call does in company, out of what it does alone (32): a return whose results are read from memory. -/
namespace Go.Proofs.YtfnncplokombgaaDoor
open Go Go.Conc

theorem stepG_leave2 {P : Program} {m : Bool} {b : Frame} {T : Array Value} {cs : List Frame} {w w' : World} {es : Array Event} {fn : Func} {todo : List Item} {c : Frame} {v : Value} (hn : b.kind = .normal) (hf : P.funcs[b.fn]? = some fn) (hr : (results fn T).runT P w #[] = (.ok v w', es)) :
    stepG P m (G { b.at ⟨T, []⟩ todo with mode := .returning } (c :: cs)) w = .go (G (c.finish v) cs) w' (seen P b.fn es) := by
  have e1 : ((results fn T).runT P w #[]).1 = .ok v w' := by rw [hr]
  have e2 : ((results fn T).runT P w #[]).2 = es := by rw [hr]
  rw [Sem.runT_eq] at e1 e2
  dsimp only at e1 e2
  simp [G, stepG, unwind, doReturn, Frame.at, hn, hf, e1, e2, GStep.after]
theorem good_fit {ρ σ : BRel} {O S : BSet} {W W1 w w1 : World} {e : Event} (H : HRel ρ W w) (H1 : HRel σ W1 w1) (I : Img ρ O S W) (t : Turn ρ σ W W1 w w1) (h : GoodEv σ W1 e) : Fit O S w w1 e := by
  rcases h with h | ⟨h1, a, b, hab, hloc, hw⟩
  · exact .inl h
  · refine .inr ⟨h1, b, hloc, (H1.lt hab).2, ?_⟩
    rcases t.fresh a b hab with hab1 | ⟨_, hb⟩
    · have hst := t.stiff a (H.lt hab1).1
      by_cases hs : Stiff W a
      · rcases (I a b hab1).2 hs with h | h
        · exact .inl (.inl h)
        · refine .inr ⟨h, ?_⟩
          cases hwr : e.write with
          | false => rfl
          | true => exact absurd (hst.2 hs) (hw hwr)
      · exact .inl (.inl ((I a b hab1).1 hs))
    · exact .inl (.inr ⟨hb, (H1.lt hab).2⟩)
theorem Meet.img {S O : BSet} {L Ls : List Nat} {w : World} (M : Meet S O L Ls w) : Img (idL L) O S (ice L Ls w) := by
  intro a b hab
  obtain ⟨rfl, hab⟩ := hab
  rcases M.own a hab with h | ⟨h, hl⟩
  · exact ⟨fun _ => h, fun _ => .inl h⟩
  · obtain ⟨c, e, fr, hc⟩ := M.tame a hab
    exact ⟨fun hn => absurd (ice_stiff hc hab hl) hn, fun _ => .inr h⟩
theorem Meet.rel {S O : BSet} {L Ls : List Nat} {w : World} (M : Meet S O L Ls w) : HRel (idL L) (ice L Ls w) w := ice_rel M.tabs M.tame M.thaw
theorem turn_guar {ρ σ : BRel} {O S : BSet} {W W1 w w1 : World} {es : Array Event} (I : Img ρ O S W) (t : Turn ρ σ W W1 w w1) (h : ∀ e ∈ es, Fit O S w w1 e) : Guar O S w w1 es :=
  ⟨t.os, t.output, t.tape, t.size, fun b hb hO => t.keep b hb fun a ha => Classical.byContradiction fun hn => hO ((I a b ha).1 hn), h⟩
section
variable {P : Program} {m : Bool} {S : BSet} {X : BSet → Goroutine → World → Prop}
/-- a return whose results are read from memory -/
theorem leave_piece (hX : Closed P m S X) (L Ls : List Nat) (keep : Nat → Prop) {w : World} {O : BSet} (M : Meet S O L Ls w) {b : Frame} {T' : Array Value} (hT : ∀ i v, keep i → T'[i]? = some v → VRel (idL L) v v) (hk : b.kind = .normal) {fn : Func} (hf : P.funcs[b.fn]? = some fn) {todo : List Item} {c : Frame} {cs : List Frame} {v : Value}
    (hE : ∀ (T : Array Value) (W : World), T.size = T'.size → (∀ i, keep i → T[i]? = T'[i]?) → W.heap = (ice L Ls w).heap → (results fn T).run P W = .ok v W) (hv : ∀ σ, Fixed σ v)
    (cont : ∀ (σ : BRel) (O1 : BSet) (WE wE : World), Path (idL L) σ O S O1 (ice L Ls w) WE w wE → X O1 (G (c.finish v) cs) wE) :
    X O (G { b.at ⟨T', []⟩ todo with mode := .returning } (c :: cs)) w := by
  obtain ⟨T, hT1, hT2⟩ := dull_row (idL L) T' keep hT
  have H := M.rel
  have I := M.img
  refine hX O _ w rfl fun w1 R => ?_
  have H1 := H.rely I R
  obtain ⟨σ, v', w2, ds, h1, h2, h3, h4, h5, h6⟩ := (sim_results fn hT1).runs (es := #[]) (es' := #[]) H1 (like_none (W' := w1) (rfl : (ice L Ls w).drawn = (ice L Ls w).drawn)) (by rw [Sem.runT_eq, hE T (ice L Ls w) hT1.1 hT2 rfl])
  rw [hv σ v' h2] at h4
  rw [Array.empty_append] at h4
  refine ⟨_, _, _, stepG_leave2 hk hf h4, turn_guar I h5 fun e he => good_fit H1 h3 I h5 (h6 e (mem_seen he)), ?_⟩
  refine cont σ _ _ w2 (Path.step (T := (ice L Ls w).tape) H1 h1 R (by exact h5) (Path.refl σ _ S _ _))
end
end Go.Proofs.YtfnncplokombgaaDoor

/- What a call does in company, out of what it does alone (33): rules for goroutine 0 beside leavers. -/
namespace Go.Proofs.YtfnncplokombgaaDoor
open Go Go.Conc

def topB : BSet := fun _ => True
def botB : BSet := fun _ => False
theorem rely_top {S : BSet} {w w1 : World} (h : Rely topB S w w1) : w1 = w.at w1.drawn := by
  obtain ⟨heap, tape, drawn, os, output⟩ := w
  obtain ⟨heap1, tape1, drawn1, os1, output1⟩ := w1
  obtain ⟨h1, h2, h3, h4, h5⟩ := h
  dsimp only at h1 h2 h3 h4 h5
  have : heap1 = heap := Array.ext_getElem? fun i => h5 i (.inl trivial)
  subst h1 h2 h3 this
  rfl
section
variable {P : Program} {Post : Value → World → Prop}
theorem RunsOn.at {g : Goroutine} {w : World} (h : RunsOn P Post g w) (d : Nat) : RunsOn P Post g (w.at d) := by
  intro gs sl t q d' h0 hL hP
  have e : (w.at d).at d' = w.at d' := rfl
  rw [e]
  exact h gs sl t q d' h0 hL hP
theorem run_step {fr fr' : Frame} {cs cs' : List Frame} {w w' : World} (h : ∀ d, ∃ es, stepG P true (G fr cs) (w.at d) = .go (G fr' cs') (w'.at d) es ∧ Guar topB botB (w.at d) (w'.at d) es) (hn : RunsOn P Post (G fr' cs') w') : RunsOn P Post (G fr cs) w := by
  refine RunsOn.closed (P := P) (Post := Post) botB topB _ w rfl fun w1 R => ?_
  rw [rely_top R]
  obtain ⟨es, h1, h2⟩ := h w1.drawn
  exact ⟨_, _, es, h1, h2, hn.at _⟩
theorem run_ctl {fr fr' : Frame} {cs cs' : List Frame} {w : World} (h : ∀ w, stepG P true (G fr cs) w = .go (G fr' cs') w #[]) (hn : RunsOn P Post (G fr' cs') w) : RunsOn P Post (G fr cs) w :=
  run_step (fun _ => ⟨#[], h _, Guar.refl _ _⟩) hn
theorem run_val {b : Frame} {a : Act} {ops : Array Oper} {i : Nat} {rest : List Nat} {k : List Item} {cs : List Frame} {o : Oper} {w w' : World} (v : Value) (ho : ops[i]? = some o) (hw : Region.wanted o (yielded ops a.tmps) = true) (hk : b.kind ≠ .early)
    (hr : ∀ d, (execOp a.eval o).run P (w.at d) = .ok (.value v) (w'.at d)) (he : ∀ d, (execOp a.eval o).events P (w.at d) #[] = #[]) (hs : w.heap.size ≤ w'.heap.size ∧ w'.os = w.os ∧ w'.output = w.output ∧ w'.tape = w.tape)
    (h : RunsOn P Post (G (b.at (a.put o.dst v) (.inRegion ops rest :: k)) cs) w') : RunsOn P Post (G (b.at a (.inRegion ops (i :: rest) :: k)) cs) w :=
  run_step (fun d => ⟨#[], by rw [stepG_value ho hw hk (hr d)]; unfold listed; rw [he d, seen_none], ⟨hs.2.1, hs.2.2.1, hs.2.2.2, hs.1, fun b _ hb => absurd trivial hb, fun e he => by simp at he⟩⟩) h
/-- a call of a Go function is entered -/
theorem run_enter {b : Frame} {a : Act} {ops : Array Oper} {i : Nat} {rest : List Nat} {k : List Item} {cs : List Frame} {o : Oper} {f : FuncId} {args : Array Value} {w : World} (ho : ops[i]? = some o) (hw : Region.wanted o (yielded ops a.tmps) = true) (hk : b.kind ≠ .early)
    (hr : ∀ w, (execOp a.eval o).run P w = .ok (.enter f args) w) (he : ∀ w, (execOp a.eval o).events P w #[] = #[])
    (h : RunsOn P Post (G (Frame.enter P f args .normal) (b.at a (.inRegion ops (i :: rest) :: k) :: cs)) w) : RunsOn P Post (G (b.at a (.inRegion ops (i :: rest) :: k)) cs) w :=
  run_ctl (fun w => by rw [stepG_enter ho hw hk (hr w)]; unfold listed; rw [he w, seen_none]) h
/-- what has become of goroutine 0's world: nothing that was there -/
structure Kept (w w1 : World) : Prop where
  os : w1.os = w.os
  output : w1.output = w.output
  tape : w1.tape = w.tape
  size : w.heap.size ≤ w1.heap.size
  keep : ∀ b, b < w.heap.size → w1.heap[b]? = w.heap[b]?
theorem Kept.refl (w : World) : Kept w w := ⟨rfl, rfl, rfl, Nat.le_refl _, fun _ _ => rfl⟩
theorem Kept.trans {a b c : World} (h : Kept a b) (h2 : Kept b c) : Kept a c := ⟨h2.os.trans h.os, h2.output.trans h.output, h2.tape.trans h.tape, Nat.le_trans h.size h2.size, fun x hx => (h2.keep x (Nat.lt_of_lt_of_le hx h.size)).trans (h.keep x hx)⟩
theorem Kept.alloc (w : World) (o : Obj) : Kept w (w.alloc o) := ⟨rfl, rfl, rfl, by simp, fun b hb => Go.RowKit.Below.heap_alloc w o b hb⟩
theorem Path.kept {ρ σ : BRel} {O S O1 : BSet} {W W1 w w1 : World} (p : Path ρ σ O S O1 W W1 w w1) (hO : ∀ b, b < w.heap.size → O b ∨ S b) (h : ∀ a b, ρ a b → Stiff W a) : Kept w w1 :=
  ⟨p.os, p.output, p.tape, p.size, fun b hb => p.keep b hb (hO b hb) fun a ha => h a b ha⟩
theorem idL_stiff {L Ls : List Nat} {w : World} (ht : ∀ b ∈ L, Tame w b) (hl : ∀ b ∈ L, b ∈ Ls) : ∀ a b, idL L a b → Stiff (ice L Ls w) a := by
  intro a b hab
  obtain ⟨rfl, hab⟩ := hab
  obtain ⟨c, e, fr, hc⟩ := ht a hab
  exact ice_stiff hc hab (hl a hab)
end
/-! ### parts of code -/
def cF : Code → Code
  | .seq a _ => a
  | .block _ c => c
  | .loop c => c
  | .cond _ a _ => a
  | c => c
def cS : Code → Code
  | .seq _ b => b
  | .cond _ _ b => b
  | c => c
def cO : Code → Array Oper
  | .region _ o _ => o
  | _ => #[]
noncomputable def b12 : Code := (Tryd.f12.body).getD .skip
noncomputable def p12_0 : Code := cF b12
noncomputable def p12_1 : Code := cF (cF (cS b12))
noncomputable def p12_2 : Code := cF (cF (cS (cF (cS b12))))
noncomputable def p12_3 : Code := cF (cS (cS b12))
noncomputable def q12 : Code := cS (cS (cS b12))
noncomputable def p12_4 : Code := cF (cF q12)
noncomputable def L12 : Code := cF (cF (cS (cF q12)))
noncomputable def p12_5 : Code := cF L12
noncomputable def B12 : Code := cF (cS (cS L12))
noncomputable def p12_18 : Code := cF (cS q12)
theorem b12_is : b12 = .seq p12_0 (.seq (.seq p12_1 (.cond (.tmp 12) (.seq p12_2 .ret) .skip)) (.seq p12_3 (.seq (.seq p12_4 (.block 0 (.loop L12))) (.seq p12_18 .ret)))) := by kernel_rfl
theorem L12_is : L12 = .seq p12_5 (.seq (.cond (.tmp 18) .skip (.exit 0)) (.block 1 B12)) := by kernel_rfl
noncomputable def b26 : Code := (Tryd.f26.body).getD .skip
noncomputable def p26_0 : Code := cF b26
noncomputable def p26_1 : Code := cF (cS b26)
noncomputable def p26_2 : Code := cF (cS (cS b26))
noncomputable def p26_3 : Code := cF (cS (cS (cS b26)))
theorem b26_is : b26 = .seq p26_0 (.seq p26_1 (.seq p26_2 (.seq p26_3 .ret))) := by kernel_rfl
noncomputable def b36 : Code := (Tryd.f36.body).getD .skip
noncomputable def p36_0 : Code := cF b36
noncomputable def L36 : Code := cF (cF (cS b36))
noncomputable def p36_1 : Code := cF (cF L36)
noncomputable def p36_2 : Code := cF (cF (cS L36))
noncomputable def p36_3 : Code := cF (cS (cF (cS L36)))
noncomputable def p36_4 : Code := cS (cS (cF (cS L36)))
theorem b36_is : b36 = .seq p36_0 (.block 0 (.loop L36)) := by kernel_rfl
theorem L36_is : L36 = .seq (.seq p36_1 (.cond (.tmp 7) .skip (.exit 0))) (.block 1 (.seq p36_2 (.seq p36_3 p36_4))) := by kernel_rfl
end Go.Proofs.YtfnncplokombgaaDoor
