/- Part 16 of 20 of what the proof of this law needs. Merged by merge.py out of: CoT EqEv CoU. -/
import Derived.Test.YtfnncplokombgaaDoorShortChainsAll15
import Derived.Orders
import Derived.Conc.CompanyDraw
import Derived.Test.YtfnncplokombgaaDoorWakesShort
import Derived.Test.YtfnncplokombgaaDoorRefBlockWord
/- What a call does in company, out of what it does alone (45): a region that draws its order, beside leavers; the end. -/
namespace Go.Proofs.YtfnncplokombgaaDoor
open Go Go.Conc
open Go.ConcN (sumTo sumTo_upd upd_ne upd_same le_sumTo sumTo_congr)

/-- every edge goes back -/
def edgesBack (ops : Array Oper) : Bool := (List.range ops.size).all fun i => match ops[i]? with | some o => o.after.all (fun e => !Region.binds .any e || decide (e.on < i)) | none => true
theorem edges_of {ops : Array Oper} (h : edgesBack ops = true) {i : Nat} {o : Oper} (ho : ops[i]? = some o) : ∀ e ∈ o.after, Region.binds .any e = true → e.on < i := by
  intro e he hb
  unfold edgesBack at h
  rw [List.all_eq_true] at h
  have hi := (Array.getElem?_eq_some_iff.1 ho).1
  have := h i (by simpa using hi)
  rw [ho] at this
  simp only [Array.all_eq_true_iff_forall_mem] at this
  have := this e he
  rw [hb] at this
  simpa using this
def left (n : Nat) (listed : Array Bool) : Nat := sumTo n fun i => if listed.getD i true = false then 1 else 0
theorem left_set {n i : Nat} {listed : Array Bool} (hs : listed.size = n) (hi : i < n) (h : listed[i]? = some false) : left n (listed.setIfInBounds i true) + 1 = left n listed := by
  have h1 := sumTo_upd (fun a => listed.getD a true) true (fun b => if b = false then 1 else 0) (i := i) (j := n) hi
  have h2 : left n (listed.setIfInBounds i true) = sumTo n (fun a => if Go.ConcN.upd (fun a => listed.getD a true) i true a = false then 1 else 0) := by
    unfold left
    refine sumTo_congr fun a ha => ?_
    have : (listed.setIfInBounds i true).getD a true = Go.ConcN.upd (fun a => listed.getD a true) i true a := by
      rw [Array.getD_eq_getD_getElem?]
      by_cases hai : i = a
      · subst hai
        rw [Array.getElem?_setIfInBounds_self_of_lt (by omega), upd_same]
        rfl
      · rw [Array.getElem?_setIfInBounds_ne hai, upd_ne _ _ (Ne.symm hai), Array.getD_eq_getD_getElem?]
    rw [this]
  have h3 : listed.getD i true = false := by rw [Array.getD_eq_getD_getElem?, h]; rfl
  simp only [h3] at h1
  rw [h2]
  unfold left
  simpa using h1
theorem ready_nil_all {ops : Array Oper} (hE : edgesBack ops = true) {listed : Array Bool} (hs : listed.size = ops.size) (h : Region.ready .any ops listed = []) : ∀ i, i < ops.size → listed[i]? = some true := by
  intro i
  induction i using Nat.strongRecOn with
  | _ i ih =>
    intro hi
    have hls : i < listed.size := by omega
    rw [Array.getElem?_eq_getElem hls]
    cases hb : listed[i] with
    | true => rfl
    | false =>
      exfalso
      unfold Region.ready at h
      rw [List.filter_eq_nil_iff] at h
      refine h i (by simpa using hi) ?_
      have h1 : listed.getD i true = false := by rw [Array.getD_eq_getD_getElem?, Array.getElem?_eq_getElem hls, hb]; rfl
      have ho : ops[i]? = some ops[i] := Array.getElem?_eq_getElem hi
      rw [h1, ho]
      simp only [Bool.not_false, Option.map_some, Option.getD_some, Bool.true_and]
      rw [Array.all_eq_true_iff_forall_mem]
      intro e he
      by_cases hbi : Region.binds .any e = true
      · have hlt := edges_of hE ho e he hbi
        have := ih e.on hlt (by omega)
        rw [Array.getD_eq_getD_getElem?, this]
        simp
      · simp [hbi]
theorem mem_ready {ops : Array Oper} {listed : Array Bool} {i : Nat} (h : i ∈ Region.ready .any ops listed) : i < ops.size ∧ listed.getD i true = false ∧ ∀ o, ops[i]? = some o → ∀ e ∈ o.after, Region.binds .any e = true → listed.getD e.on false = true := by
  unfold Region.ready at h
  rw [List.mem_filter] at h
  obtain ⟨h1, h2⟩ := h
  have hi : i < ops.size := by simpa using h1
  rw [Bool.and_eq_true] at h2
  obtain ⟨h2, h3⟩ := h2
  refine ⟨hi, by simpa using h2, fun o ho e he hb => ?_⟩
  rw [ho] at h3
  simp only [Option.map_some, Option.getD_some, Array.all_eq_true_iff_forall_mem] at h3
  have := h3 e he
  rw [hb] at this
  simpa using this
section
variable {P : Program} {Post : Value → World → Prop}
/-- ████ A REGION THAT DRAWS ITS ORDER ████ -/
theorem region_runs {ops : Array Oper} {id : Nat} {b : Frame} {k : List Item} {cs : List Frame} {T : Array Value} {w : World} (hm : P.follows .mixedOrders = true) (hE : edgesBack ops = true) (Inv : Array Bool → Array Value → World → Prop) (h0 : Inv (Array.replicate ops.size false) T w)
    (hstep : ∀ (listed : Array Bool) (T : Array Value) (w : World) (i : Nat) (o : Oper) (rest : List Nat), listed.size = ops.size → ops[i]? = some o → (∀ e ∈ o.after, Region.binds .any e = true → listed[e.on]? = some true) → listed[i]? = some false → Inv listed T w →
      (∀ T' w', Inv (listed.setIfInBounds i true) T' w' → RunsOn P Post (G (b.at ⟨T', []⟩ (.inRegion ops rest :: k)) cs) w') → RunsOn P Post (G (b.at ⟨T, []⟩ (.inRegion ops (i :: rest) :: k)) cs) w)
    (hend : ∀ listed T w, (∀ i, i < ops.size → listed[i]? = some true) → Inv listed T w → RunsOn P Post (G (b.at ⟨T, []⟩ k) cs) w) :
    RunsOn P Post (G (b.at ⟨T, []⟩ (.code (.region id ops true) :: k)) cs) w := by
  have key : ∀ (fuel t : Nat) (listed : Array Bool) (T : Array Value) (w : World), listed.size = ops.size → left ops.size listed ≤ fuel → Inv listed T w → RunsOn P Post (G (b.at ⟨T, []⟩ (.inRegion ops (Region.linearise.go .any ops fuel t listed []) :: k)) cs) w := by
    intro fuel
    induction fuel with
    | zero =>
      intro t listed T w hs hl hI
      simp only [Region.linearise.go, List.reverse_nil]
      refine run_ctl (fun w => stepG_region_end) (hend listed T w (fun i hi => ?_) hI)
      have h1 : (if listed.getD i true = false then 1 else 0) ≤ left ops.size listed := le_sumTo (f := fun i => if listed.getD i true = false then 1 else 0) hi
      have hls : i < listed.size := by omega
      rw [Array.getElem?_eq_getElem hls]
      cases hb : listed[i] with
      | true => rfl
      | false =>
        have h3 : listed.getD i true = false := by rw [Array.getD_eq_getD_getElem?, Array.getElem?_eq_getElem hls, hb]; rfl
        rw [if_pos h3] at h1
        omega
    | succ fuel ih =>
      intro t listed T w hs hl hI
      simp only [Region.linearise.go]
      change RunsOn P Post (G (b.at ⟨T, []⟩ (.inRegion ops (match (Region.ready .any ops listed)[t % (Region.ready .any ops listed).length]? with
        | some i => Region.linearise.go .any ops fuel (t / (Region.ready .any ops listed).length) (listed.setIfInBounds i true) [i]
        | none => [].reverse) :: k)) cs) w
      cases hi : (Region.ready .any ops listed)[t % (Region.ready .any ops listed).length]? with
      | none =>
        have hnil : Region.ready .any ops listed = [] := by
          cases hr : Region.ready .any ops listed with
          | nil => rfl
          | cons x xs =>
            rw [hr] at hi
            have hlt : t % (x :: xs).length < (x :: xs).length := Nat.mod_lt _ (by simp)
            simp at hi
            simp at hlt
            omega
        exact run_ctl (fun w => stepG_region_end) (hend listed T w (ready_nil_all hE hs hnil) hI)
      | some i =>
        simp only []
        rw [linearise_go_acc, List.reverse_singleton, List.singleton_append]
        obtain ⟨m1, m2, m3⟩ := mem_ready (List.mem_of_getElem? hi)
        have ho : ops[i]? = some ops[i] := Array.getElem?_eq_getElem m1
        have hf : listed[i]? = some false := by
          have hls : i < listed.size := by omega
          rw [Array.getD_eq_getD_getElem?, Array.getElem?_eq_getElem hls] at m2
          rw [Array.getElem?_eq_getElem hls]
          exact congrArg some m2
        refine hstep listed T w i _ _ hs ho (fun e he hb => ?_) hf hI fun T' w' hI' => ih _ _ T' w' (by simpa using hs) (by have := left_set hs m1 hf; omega) hI'
        have := m3 _ ho e he hb
        rw [Array.getD_eq_getD_getElem?] at this
        cases hx : listed[e.on]? with
        | none => rw [hx] at this; cases this
        | some y => rw [hx] at this; exact congrArg some this
  refine RunsOn.closed (P := P) (Post := Post) botB topB _ w rfl fun w1 R => ?_
  rw [rely_top R]
  refine ⟨_, _, _, stepG_region_draw, ⟨rfl, rfl, rfl, Nat.le_refl _, fun b _ hb => absurd trivial hb, fun e he => by simp at he⟩, ?_⟩
  simp only [Region.schedule, hm, Bool.true_or, if_true]
  have hl0 : left ops.size (Array.replicate ops.size false) ≤ ops.size := by
    unfold left
    have := Go.ConcN.sumTo_le (f := fun i => if (Array.replicate ops.size false).getD i true = false then 1 else 0) (c := 1) (j := ops.size) (fun i _ => by split <;> omega)
    omega
  exact RunsOn.at (key ops.size _ _ T w (by simp) hl0 h0) (w1.drawn + 1)
/-- the end of goroutine 0 -/
theorem run_end {b : Frame} {T : Array Value} {todo : List Item} {fn : Func} {r : Tmp} {v : Value} {w : World} (hn : b.kind = .normal) (hf : P.funcs[b.fn]? = some fn) (hr : fn.results = #[.tmp r]) (hv : T[r]? = some v) (hi : P.inits.idxOf? b.fn = none) (hp : ∀ d, Post v (w.at d)) : RunsOn P Post (G { b.at ⟨T, []⟩ todo with mode := .returning } []) w := by
  refine fin_end rfl fun d => ⟨v, w.at d, #[], ?_, fun e he => by simp at he, hp d⟩
  have h1 : (results fn T).run P (w.at d) = .ok v (w.at d) := by
    rw [results_tmp hr, Array.getD_eq_getD_getElem?, hv]
    rfl
  have h2 : (results fn T).events P (w.at d) #[] = #[] := events_results_tmp hr _ _
  simp [G, stepG, unwind, doReturn, Frame.at, hn, hf, h1, h2, hi, GStep.after, seen_none]
end
end Go.Proofs.YtfnncplokombgaaDoor

/- Comparing arrays of numbers touches nothing. -/
namespace Go.Proofs.YtfnncplokombgaaDoor
open Go Go.Conc Go.RowKit

theorem ev_equalIn_array {P : Program} {w : World} {es : Array Event} (d : Nat) {t e : TypeId} {n : Nat} {i : TypeInfo} (xs ys : Array Value) (hu : P.underlying t = some (.array n e)) (hi : P.info? e = some i) :
    (Op.equalIn (d + 1) t (.agg xs) (.agg ys)).events P w es = (Op.eqItems d e (P.cellsOf e) xs ys (List.range n)).events P w es := by
  simp only [Op.equalIn, Sem.events_bind, run_underlying hu, Result.evThen_ok, run_sizeOf w hi, events_underlying, events_sizeOf]
  simp only [Std.Legacy.Range.forIn_eq_forIn_range', Std.Legacy.Range.size, Nat.sub_zero, Nat.add_one_sub_one, Nat.div_one, List.range_eq_range']
  generalize List.range' 0 n = is
  induction is generalizing w es with
  | nil => simp [Op.eqItems]
  | cons j is ih =>
    simp only [List.forIn_cons, Op.eqItems, Sem.events_bind, Sem.run_bind]
    generalize (part e xs (j * P.cellsOf e)).events P w es = e1
    generalize (part e xs (j * P.cellsOf e)).run P w = r1
    cases r1 with
    | ok a w1 =>
      simp only [Result.andThen_ok, Result.evThen_ok]
      generalize (part e ys (j * P.cellsOf e)).events P w1 e1 = e2
      generalize (part e ys (j * P.cellsOf e)).run P w1 = r2
      cases r2 with
      | ok b w2 =>
        simp only [Result.andThen_ok, Result.evThen_ok]
        generalize (Op.equalIn d e a b).events P w2 e2 = e3
        generalize (Op.equalIn d e a b).run P w2 = r3
        cases r3 with
        | ok r w3 =>
          cases r
          · simp only [Result.andThen_ok, Result.evThen_ok, Bool.not_false, if_true, Sem.run_pure, Sem.events_pure]
          · simp only [Result.andThen_ok, Result.evThen_ok, Bool.not_true, Bool.false_eq_true, if_false, Sem.run_pure, Sem.events_pure]
            exact ih
        | halt x w3 => simp [Result.andThen, Result.evThen]
      | halt x w2 => simp [Result.andThen, Result.evThen]
    | halt x w1 => simp [Result.andThen, Result.evThen]
theorem ev_items {P : Program} {e : TypeId} {k : IntKind} (he : P.underlying e = some (.int k)) (d n : Nat) (f g : Nat → Int) (w : World) (es : Array Event) : ∀ is : List Nat, (∀ i ∈ is, i < n) →
    (Op.eqItems (d + 1) e 1 (vals k n f) (vals k n g) is).events P w es = es
  | [], _ => by simp [Op.eqItems]
  | i :: is, h => by
    have hi : i < n := h i (by simp)
    have ih := ev_items he d n f g w es is (fun j hj => h j (by simp [hj]))
    have hp : P.plainKey e = true := by simp [Program.plainKey, he]
    have p1 := run_part_plain (P := P) w hp (xs := vals k n f) (off := i * 1) (v := .int k (f i)) (by rw [Nat.mul_one, vals_get? _ _ _ _ hi])
    have p2 := run_part_plain (P := P) w hp (xs := vals k n g) (off := i * 1) (v := .int k (g i)) (by rw [Nat.mul_one, vals_get? _ _ _ _ hi])
    have p3 : (Op.equalIn (d + 1) e (.int k (f i)) (.int k (g i))).run P w = .ok (f i == g i) w := by simp [Op.equalIn, run_underlying he]
    have q1 : ∀ (xs : Array Value) (off : Nat) (v : Value), xs[off]? = some v → (part e xs off).events P w es = es := fun xs off v hx => by
      simp [part, isAgg, run_underlying he, hx]
    have q2 := q1 (vals k n f) (i * 1) (.int k (f i)) (by rw [Nat.mul_one, vals_get? _ _ _ _ hi])
    have q4 := q1 (vals k n g) (i * 1) (.int k (g i)) (by rw [Nat.mul_one, vals_get? _ _ _ _ hi])
    have q3 : (Op.equalIn (d + 1) e (.int k (f i)) (.int k (g i))).events P w es = es := by simp [Op.equalIn, run_underlying he]
    simp only [Op.eqItems, Sem.events_bind, p1, p2, p3, q2, q4, q3, Result.evThen_ok]
    cases h0 : (f i == g i)
    · simp
    · simpa using ih
theorem ev_eql {P : Program} {T e : TypeId} {k : IntKind} {n : Nat} {i : TypeInfo} (hu : P.underlying T = some (.array n e)) (he : P.underlying e = some (.int k)) (hi : P.info? e = some i) (hc : P.cellsOf e = 1) (f g : Nat → Int) (w : World) (es : Array Event) :
    (Op.equalIn 10000 T (.agg (vals k n f)) (.agg (vals k n g))).events P w es = es := by
  rw [show (10000 : Nat) = 9998 + 1 + 1 from rfl, ev_equalIn_array (9998 + 1) _ _ hu hi, hc]
  exact ev_items he 9998 n f g w es _ (by simp)
theorem run_eqA {T : TypeId} {n : Nat} {a : Act} {o : Oper} {x y : Operand} {f g : Nat → Int} (hu : Tryd.prog.underlying T = some (.array n 24)) (hop : o.op = .binOp .eql T x y T) (hm : Tryd.prog.eqGuardType Tryd.prog.depth T = false) (hx : a.eval x = .agg (vals .u32 n f)) (hy : a.eval y = .agg (vals .u32 n g)) (w : World) :
    (execOp a.eval o).run Tryd.prog w = .ok (.value (.bool (allEq f g n))) w ∧ (execOp a.eval o).events Tryd.prog w #[] = #[] := by
  obtain ⟨i, hi, _⟩ := info_parts (P := Tryd.prog) (e := 24) (z := .int .u32 0) (size := 1) (bytes := 4) (by kernel_rfl)
  have h1 := eqin_vals hu Tryd.underlying24 hi (by kernel_rfl) f g w
  have h2 := ev_eql hu Tryd.underlying24 hi (by kernel_rfl) f g w #[]
  unfold execOp
  simp only [hop, hx, hy]
  constructor
  · simp [go_sem, h1, run_eqGuard_agg (w := w) .eql T x y (vals .u32 n f) (vals .u32 n g) hm]
  · have e1 : (eqGuard .eql T x y (.agg (vals .u32 n f)) (.agg (vals .u32 n g))).events Tryd.prog w #[] = #[] := by simp [eqGuard, run_program, hm]
    simp [go_sem, binOp, Op.equal, Op.maxDepth, h2, e1, run_eqGuard_agg (w := w) .eql T x y (vals .u32 n f) (vals .u32 n g) hm]
end Go.Proofs.YtfnncplokombgaaDoor

/- What a call does in company, out of what it does alone (46): rules for the regions of the laws. -/
namespace Go.Proofs.YtfnncplokombgaaDoor
open Go Go.Conc Go.RowKit

/-! ### what a frame is known to hold -/
def Knows (K : List (Nat × Value)) (T : Array Value) : Prop := ∀ p ∈ K, T[p.1]? = some p.2
def deps (o : Oper) : List Nat := (o.after.toList.filter (fun e => Region.binds .any e)).map (·.on)
theorem deps_of {o : Oper} {listed : Array Bool} (h : ∀ e ∈ o.after, Region.binds .any e = true → listed[e.on]? = some true) {l : List Nat} (hl : deps o = l) (j : Nat) (hj : l.contains j = true) : listed[j]? = some true := by
  have : j ∈ deps o := by rw [hl]; simpa using hj
  unfold deps at this
  simp only [List.mem_map, List.mem_filter, Array.mem_toList_iff] at this
  obtain ⟨e, ⟨h1, h2⟩, rfl⟩ := this
  exact h e h1 h2
structure St (N : Nat) (w0 : World) (K M : List (Nat × Value)) (listed : Array Bool) (T : Array Value) (w : World) : Prop where
  size : T.size = N
  kept : Kept w0 w
  base : Knows K T
  done : ∀ (i : Nat) (p : Nat × Value), listed[i]? = some true → M[i]? = some p → T[p.1]? = some p.2
theorem getElem?_repl {n i : Nat} (h : (Array.replicate n false)[i]? = some true) : False := by
  rw [Array.getElem?_replicate] at h
  split at h <;> cases h
theorem St.start {N n : Nat} {w0 : World} {K M : List (Nat × Value)} {T : Array Value} {w : World} (h1 : T.size = N) (h2 : Kept w0 w) (h3 : Knows K T) : St N w0 K M (Array.replicate n false) T w := ⟨h1, h2, h3, fun _ _ h => (getElem?_repl h).elim⟩
theorem St.stop {N n : Nat} {w0 : World} {K M : List (Nat × Value)} {listed : Array Bool} {T : Array Value} {w : World} (h : St N w0 K M listed T w) (hl : ∀ i, i < n → listed[i]? = some true) (hn : M.length = n) : Knows (K ++ M) T := by
  intro p hp
  rcases List.mem_append.1 hp with hp | hp
  · exact h.base p hp
  · obtain ⟨i, hi, e⟩ := List.mem_iff_getElem.1 hp
    exact h.done i p (hl i (by omega)) (by rw [List.getElem?_eq_getElem hi, e])
theorem St.evB {N : Nat} {w0 : World} {K M : List (Nat × Value)} {listed : Array Bool} {T : Array Value} {w : World} (h : St N w0 K M listed T w) {d : Nat} {v : Value} (hp : (d, v) ∈ K) : Act.eval ⟨T, []⟩ (.tmp d) = v := eval_tmp (h.base (d, v) hp)
theorem St.evM {N : Nat} {w0 : World} {K M : List (Nat × Value)} {listed : Array Bool} {T : Array Value} {w : World} (h : St N w0 K M listed T w) {i d : Nat} {v : Value} (hl : listed[i]? = some true) (hp : M[i]? = some (d, v)) : Act.eval ⟨T, []⟩ (.tmp d) = v := eval_tmp (h.done i (d, v) hl hp)
/-- the slots are apart -/
structure Apart (N : Nat) (K M : List (Nat × Value)) : Prop where
  lt : ∀ p ∈ M, p.1 < N
  base : ∀ p ∈ K, ∀ q ∈ M, p.1 ≠ q.1
  nodup : (M.map Prod.fst).Nodup
theorem Apart.of {N : Nat} {K M : List (Nat × Value)} (ks ms : List Nat) (hk : K.map Prod.fst = ks) (hm : M.map Prod.fst = ms) (h : (ms.all (· < N) && ms.all (fun m => !ks.contains m) && decide ms.Nodup) = true) : Apart N K M := by
  subst hk hm
  simp only [Bool.and_eq_true, List.all_eq_true, decide_eq_true_eq] at h
  obtain ⟨⟨h1, h2⟩, h3⟩ := h
  refine ⟨fun p hp => h1 p.1 (List.mem_map_of_mem hp), fun p hp q hq e => ?_, h3⟩
  have := h2 q.1 (List.mem_map_of_mem hq)
  simp only [Bool.not_eq_true', List.contains_eq_mem, decide_eq_false_iff_not] at this
  exact this (e ▸ List.mem_map_of_mem hp)
theorem St.put {N : Nat} {w0 : World} {K M : List (Nat × Value)} {listed : Array Bool} {T : Array Value} {w w' : World} (h : St N w0 K M listed T w) (A : Apart N K M) {i d : Nat} {v : Value} (hk : Kept w w') (hp : M[i]? = some (d, v)) : St N w0 K M (listed.setIfInBounds i true) (T.setIfInBounds d v) w' := by
  have hm : (d, v) ∈ M := List.mem_of_getElem? hp
  have hd := A.lt _ hm
  refine ⟨by simpa using h.size, h.kept.trans hk, fun p hq => ?_, fun j p hj hq => ?_⟩
  · rw [Array.getElem?_setIfInBounds_ne (fun e => A.base p hq _ hm e.symm)]
    exact h.base p hq
  · by_cases hij : j = i
    · subst hij
      obtain rfl := Option.some.inj (hp.symm.trans hq)
      exact Array.getElem?_setIfInBounds_self_of_lt (by rw [h.size]; exact hd)
    · rw [Array.getElem?_setIfInBounds_ne (Ne.symm hij)] at hj
      have hne : d ≠ p.1 := by
        intro e
        have e1 : (M.map Prod.fst)[i]? = some d := by simp [hp]
        have e2 : (M.map Prod.fst)[j]? = some d := by simp [hq, e]
        obtain ⟨hl, _⟩ := List.getElem?_eq_some_iff.1 e1
        exact hij ((List.getElem?_inj hl A.nodup).1 (e1.trans e2.symm)).symm
      rw [Array.getElem?_setIfInBounds_ne hne]
      exact h.done j p hj hq
section
variable {P : Program} {Post : Value → World → Prop}
theorem St.next {N : Nat} {w0 : World} {K M : List (Nat × Value)} {listed : Array Bool} {T : Array Value} {w : World} (h : St N w0 K M listed T w) (A : Apart N K M) {b : Frame} {ops : Array Oper} {i d : Nat} {rest : List Nat} {k : List Item} {cs : List Frame} {o : Oper} {v : Value}
    (cont : ∀ T' w', St N w0 K M (listed.setIfInBounds i true) T' w' → RunsOn P Post (G (b.at ⟨T', []⟩ (.inRegion ops rest :: k)) cs) w') (hdst : o.dst = some d) (hp : M[i]? = some (d, v)) : ∀ w', Kept w w' → RunsOn P Post (G (b.at (Act.put ⟨T, []⟩ o.dst v) (.inRegion ops rest :: k)) cs) w' := by
  intro w' hk
  rw [hdst]
  exact cont _ _ (h.put A hk hp)
/-- an operation that touches nothing -/
theorem rl_val {b : Frame} {a : Act} {ops : Array Oper} {i : Nat} {rest : List Nat} {k : List Item} {cs : List Frame} {o : Oper} {w : World} {v : Value} (ho : ops[i]? = some o) (hw : Region.wanted o (yielded ops a.tmps) = true) (hk : b.kind ≠ .early)
    (hr : ∀ w, (execOp a.eval o).run P w = .ok (.value v) w ∧ (execOp a.eval o).events P w #[] = #[])
    (cont : ∀ w', Kept w w' → RunsOn P Post (G (b.at (a.put o.dst v) (.inRegion ops rest :: k)) cs) w') : RunsOn P Post (G (b.at a (.inRegion ops (i :: rest) :: k)) cs) w :=
  run_val (w' := w) v ho hw hk (fun _ => (hr _).1) (fun _ => (hr _).2) ⟨Nat.le_refl _, rfl, rfl, rfl⟩ (cont w (Kept.refl w))
/-- a region in the text's order -/
theorem region_plain {ops : Array Oper} {id : Nat} {b : Frame} {k : List Item} {cs : List Frame} {T : Array Value} {w : World} (hE : edgesBack ops = true) (Inv : Array Bool → Array Value → World → Prop) (h0 : Inv (Array.replicate ops.size false) T w)
    (hstep : ∀ (listed : Array Bool) (T : Array Value) (w : World) (i : Nat) (o : Oper) (rest : List Nat), listed.size = ops.size → ops[i]? = some o → (∀ e ∈ o.after, Region.binds .any e = true → listed[e.on]? = some true) → listed[i]? = some false → Inv listed T w →
      (∀ T' w', Inv (listed.setIfInBounds i true) T' w' → RunsOn P Post (G (b.at ⟨T', []⟩ (.inRegion ops rest :: k)) cs) w') → RunsOn P Post (G (b.at ⟨T, []⟩ (.inRegion ops (i :: rest) :: k)) cs) w)
    (hend : ∀ listed T w, (∀ i, i < ops.size → listed[i]? = some true) → Inv listed T w → RunsOn P Post (G (b.at ⟨T, []⟩ k) cs) w) :
    RunsOn P Post (G (b.at ⟨T, []⟩ (.code (.region id ops false) :: k)) cs) w := by
  have key : ∀ (m j : Nat) (listed : Array Bool) (T : Array Value) (w : World), m + j = ops.size → listed.size = ops.size → (∀ i, i < j → listed[i]? = some true) → (∀ i, j ≤ i → i < ops.size → listed[i]? = some false) → Inv listed T w → RunsOn P Post (G (b.at ⟨T, []⟩ (.inRegion ops (List.range' j m) :: k)) cs) w := by
    intro m
    induction m with
    | zero =>
      intro j listed T w hj hs h1 h2 hI
      exact run_ctl (fun w => stepG_region_end) (hend listed T w (fun i hi => h1 i (by omega)) hI)
    | succ m ih =>
      intro j listed T w hj hs h1 h2 hI
      rw [List.range'_succ]
      have ho : ops[j]? = some ops[j] := Array.getElem?_eq_getElem (by omega)
      refine hstep listed T w j _ _ hs ho (fun e he hb => h1 _ (edges_of hE ho e he hb)) (h2 j (Nat.le_refl _) (by omega)) hI fun T' w' hI' => ih (j + 1) _ T' w' (by omega) (by simpa using hs) (fun i hi => ?_) (fun i hi hi2 => ?_) hI'
      · by_cases hij : i = j
        · subst hij; exact Array.getElem?_setIfInBounds_self_of_lt (by omega)
        · rw [Array.getElem?_setIfInBounds_ne (Ne.symm hij)]; exact h1 i (by omega)
      · rw [Array.getElem?_setIfInBounds_ne (by omega)]; exact h2 i (by omega) hi2
  refine run_ctl (fun w => step_reg rfl rfl) ?_
  rw [List.range_eq_range']
  exact key ops.size 0 _ T w (by omega) (by simp) (fun i hi => absurd hi (by omega)) (fun i _ hi => by rw [Array.getElem?_replicate, if_pos hi]) h0
end
/-! ### single operations -/
section
variable {P : Program} {a : Act} {o : Oper} {x y z : Operand}
theorem run_pick {c : Bool} {u v : Value} (hop : o.op = .pick x y z) (hx : a.eval x = .bool c) (hy : a.eval y = u) (hz : a.eval z = v) (w : World) : (execOp a.eval o).run P w = .ok (.value (if c then u else v)) w ∧ (execOp a.eval o).events P w #[] = #[] := by
  unfold execOp
  simp only [hop, hx, hy, hz]
  cases c <;> simp [go_sem]
theorem run_unot {c : Bool} {t : TypeId} (hop : o.op = .unOp .not t x) (hx : a.eval x = .bool c) (w : World) : (execOp a.eval o).run P w = .ok (.value (.bool (!c))) w ∧ (execOp a.eval o).events P w #[] = #[] := by
  unfold execOp
  simp only [hop, hx]
  cases c <;> simp [go_sem]
theorem run_lenS {j : Tmp} {b : Option Addr} {l c : Nat} (hop : o.op = .call ⟨.builtin .len, #[.tmp j], #[22]⟩) (hx : a.eval (.tmp j) = .slice b l c) (w : World) : (execOp a.eval o).run Tryd.prog w = .ok (.value (.int .i64 l)) w ∧ (execOp a.eval o).events Tryd.prog w #[] = #[] := by
  have h1 : a.tmps[j]?.getD undef = .slice b l c := by rw [← hx]; simp [Act.eval]
  unfold execOp
  simp only [hop]
  constructor
  · simp [go_sem, h1]
  · simp [go_sem, h1]
theorem run_gtr {n : Int} {m : Int} {t s : TypeId} (hop : o.op = .binOp .gtr t x (.const (.int .i64 m)) s) (hx : a.eval x = .int .i64 n) (w : World) : (execOp a.eval o).run P w = .ok (.value (.bool (decide (m < n)))) w ∧ (execOp a.eval o).events P w #[] = #[] := by
  have hc : a.eval (.const (.int .i64 m)) = .int .i64 m := rfl
  unfold execOp
  simp only [hop, hx, hc]
  constructor
  · simp [go_sem]
  · simp [go_sem]
theorem run_mul64 {n r : Int} {t s : TypeId} (hop : o.op = .binOp .mul t x (.const (.int .i64 64)) s) (hx : a.eval x = .int .i64 n) (hr : IntKind.i64.wrap (n * 64) = r) (w : World) : (execOp a.eval o).run P w = .ok (.value (.int .i64 r)) w ∧ (execOp a.eval o).events P w #[] = #[] := by
  have hc : a.eval (.const (.int .i64 64)) = .int .i64 64 := rfl
  unfold execOp
  simp only [hop, hx, hc]
  constructor
  · simp [go_sem, hr]
  · simp [go_sem]
theorem run_quo64 {n r : Int} {t s : TypeId} (hop : o.op = .binOp .quo t x (.const (.int .i64 64)) s) (hx : a.eval x = .int .i64 n) (hr : IntKind.i64.wrap (Int.tdiv n 64) = r) (w : World) : (execOp a.eval o).run P w = .ok (.value (.int .i64 r)) w ∧ (execOp a.eval o).events P w #[] = #[] := by
  have hc : a.eval (.const (.int .i64 64)) = .int .i64 64 := rfl
  unfold execOp
  simp only [hop, hx, hc]
  constructor
  · simp [go_sem, hr]
  · simp [go_sem]
theorem run_minI {i j : Tmp} {n m r : Int} (hop : o.op = .call ⟨.builtin .min, #[.tmp i, .tmp j], #[3, 3]⟩) (hx : a.eval (.tmp i) = .int .i64 n) (hy : a.eval (.tmp j) = .int .i64 m) (hr : min n m = r) (w : World) : (execOp a.eval o).run Tryd.prog w = .ok (.value (.int .i64 r)) w ∧ (execOp a.eval o).events Tryd.prog w #[] = #[] := by
  have h1 : a.tmps[i]?.getD undef = .int .i64 n := by rw [← hx]; simp [Act.eval]
  have h2 : a.tmps[j]?.getD undef = .int .i64 m := by rw [← hy]; simp [Act.eval]
  unfold execOp
  simp only [hop]
  constructor
  · simp [go_sem, h1, h2, hr]
  · simp [go_sem, h1, h2, Builtin.min_, Builtin.min2]
theorem run_conv {n r : Int} (hop : o.op = .convert 5 3 x) (hx : a.eval x = .int .u8 n) (hr : IntKind.i64.wrap n = r) (w : World) : (execOp a.eval o).run Tryd.prog w = .ok (.value (.int .i64 r)) w ∧ (execOp a.eval o).events Tryd.prog w #[] = #[] := by
  unfold execOp
  simp only [hop, hx]
  constructor
  · simp [go_sem, hr]
  · simp [go_sem]
theorem run_build64 (hop : o.op = .build 25 #[]) (w : World) : (execOp a.eval o).run Tryd.prog w = .ok (.value (.agg (vals .u32 64 (fun _ => 0)))) w ∧ (execOp a.eval o).events Tryd.prog w #[] = #[] := by
  have hzv := zv64w
  unfold execOp
  simp only [hop]
  constructor
  · simp [go_sem, hzv]
  · simp [go_sem, hzv]
theorem info8 : ∃ i, Tryd.prog.info? 5 = some i ∧ i.size = 1 := by
  obtain ⟨i, h1, h2, h3, h4⟩ := info_parts (P := Tryd.prog) (e := 5) (z := .int .u8 0) (size := 1) (bytes := 1) (by kernel_rfl)
  exact ⟨i, h1, h3⟩
theorem addr_add_zero (x : Addr) : x.add 0 = x := by
  unfold Addr.add
  rcases x with ⟨b, o, _ | ⟨_⟩⟩ <;> simp
def subAddr (a : Option Addr) (cap n : Nat) : Option Addr := if cap = n then a else a.map (·.add n)
theorem run_sliceHi {s : Option Addr} {len cap n : Nat} (hop : o.op = .slice 22 x none (some y) none) (hx : a.eval x = .slice s len cap) (hy : a.eval y = .int .i64 (n : Int)) (hn : n ≤ cap) (w : World) : (execOp a.eval o).run Tryd.prog w = .ok (.value (.slice s n cap)) w ∧ (execOp a.eval o).events Tryd.prog w #[] = #[] := by
  obtain ⟨i, hi, hs⟩ := info8
  have h3 : ¬ cap < n := by omega
  unfold execOp
  simp only [hop, hx, hy, Option.map_some, Option.map_none]
  constructor
  · simp [Instr.sliceAt, Instr.slice, Instr.sliceBounds, Instr.sliceBound, asIntOf, run_underlying Tryd.underlying22, sizeOf, typeInfo, hi, addr_add_zero, h3]
  · simp [Instr.sliceAt, Instr.slice, Instr.sliceBounds, Instr.sliceBound, asIntOf, run_underlying Tryd.underlying22, sizeOf, typeInfo, hi, addr_add_zero, hn]
theorem run_sliceLo {s : Option Addr} {len cap n : Nat} (hop : o.op = .slice 22 x (some y) none none) (hx : a.eval x = .slice s len cap) (hy : a.eval y = .int .i64 (n : Int)) (hn : n ≤ len) (w : World) : (execOp a.eval o).run Tryd.prog w = .ok (.value (.slice (subAddr s cap n) (len - n) (cap - n))) w ∧ (execOp a.eval o).events Tryd.prog w #[] = #[] := by
  obtain ⟨i, hi, hs⟩ := info8
  have h3 : ¬ len < n := by omega
  unfold execOp subAddr
  simp only [hop, hx, hy, Option.map_some, Option.map_none]
  constructor
  · simp [Instr.sliceAt, Instr.slice, Instr.sliceBounds, Instr.sliceBound, asIntOf, run_underlying Tryd.underlying22, sizeOf, typeInfo, hi, hs, h3]
  · simp [Instr.sliceAt, Instr.slice, Instr.sliceBounds, Instr.sliceBound, asIntOf, run_underlying Tryd.underlying22, sizeOf, typeInfo, hi, hn]
theorem run_sliceA {g : Nat} (hop : o.op = .slice 36 x none none none) (hx : a.eval x = .pointer (some ⟨g, 0, none⟩)) (w : World) : (execOp a.eval o).run Tryd.prog w = .ok (.value (.slice (some ⟨g, 0, none⟩) 64 64)) w ∧ (execOp a.eval o).events Tryd.prog w #[] = #[] := by
  obtain ⟨i, hi, hs⟩ := info8
  unfold execOp
  simp only [hop, hx, Option.map_none]
  constructor
  · simp [Instr.sliceAt, Instr.slice, Instr.sliceBounds, Instr.sureAddr, run_underlying Tryd.underlying36, sizeOf, typeInfo, hi, addr_add_zero]
  · simp [Instr.sliceAt, Instr.slice, Instr.sliceBounds, Instr.sureAddr, run_underlying Tryd.underlying36, sizeOf, typeInfo, hi, addr_add_zero]
end
/-! ### loads, calls -/
/-- a slice of bytes, as a law's input -/
structure InS (w : World) (s : Option Addr) (len cap : Nat) (f : Nat → Int) : Prop where
  le : len ≤ cap
  base : s = none ∨ ∃ ib off, s = some ⟨ib, off, none⟩ ∧ Tame w ib
  rd : reads w s len .u8 f
  lt : ∀ i, i < len → 0 ≤ f i ∧ f i < 256
theorem InS.kept {w w1 : World} {s : Option Addr} {len cap : Nat} {f : Nat → Int} (h : InS w s len cap f) (k : Kept w w1) : InS w1 s len cap f :=
  ⟨h.le, h.base.imp id (fun ⟨ib, off, e, t⟩ => ⟨ib, off, e, t.kept k⟩), fun hp => by obtain ⟨b, off, e, hc⟩ := h.rd hp; exact ⟨b, off, e, fun j hj => k.cell (hc j hj)⟩, h.lt⟩
theorem InS.hi {w : World} {s : Option Addr} {len cap : Nat} {f : Nat → Int} (h : InS w s len cap f) {n : Nat} (hn : n ≤ len) : InS w s n cap f :=
  ⟨by have := h.le; omega, h.base, fun hp => by obtain ⟨b, off, e, hc⟩ := h.rd (by omega); exact ⟨b, off, e, fun j hj => hc j (by omega)⟩, fun i hi => h.lt i (by omega)⟩
theorem InS.lo {w : World} {s : Option Addr} {len cap : Nat} {f : Nat → Int} (h : InS w s len cap f) {n : Nat} (hn : n ≤ len) : InS w (subAddr s cap n) (len - n) (cap - n) (fun j => f (n + j)) := by
  refine ⟨by have := h.le; omega, ?_, fun hp => ?_, fun i hi => h.lt _ (by omega)⟩
  · unfold subAddr
    split
    · exact h.base
    · rcases h.base with rfl | ⟨ib, off, rfl, t⟩
      · exact .inl rfl
      · exact .inr ⟨ib, off + n, by rw [Option.map_some, Addr.add_lit], t⟩
  · obtain ⟨b, off, rfl, hc⟩ := h.rd (by omega)
    refine ⟨b, off + n, ?_, fun j hj => ?_⟩
    · unfold subAddr
      rw [if_neg (by have := h.le; omega), Option.map_some, Addr.add_lit]
    · rw [Nat.add_assoc]
      exact hc (n + j) (by omega)
section
variable {Post : Value → World → Prop}
theorem rl_load {b : Frame} {ops : Array Oper} {i n g p : Nat} {rest : List Nat} {k : List Item} {cs : List Frame} {o : Oper} {T : Array Value} {w : World} {ty e t : TypeId} {f : Nat → Int} (hu : Tryd.prog.underlying ty = some (.array n e)) (hc : (Tryd.prog.info? ty).map (·.size) = some n) (hokk : okOp (.load ty (.tmp p)) = true) (hop : o.op = .load ty (.tmp p)) (G0 : Ground w) (hg : RowC w g (vals .u32 n f) t)
    (ho : ops[i]? = some o) (hw : Region.wanted o (yielded ops T) = true) (hk : b.kind ≠ .early) (hx : T[p]? = some (.pointer (some ⟨g, 0, none⟩)))
    (cont : ∀ w', Kept w w' → RunsOn Tryd.prog Post (G (b.at (Act.put ⟨T, []⟩ o.dst (.agg (vals .u32 n f))) (.inRegion ops rest :: k)) cs) w') : RunsOn Tryd.prog Post (G (b.at ⟨T, []⟩ (.inRegion ops (i :: rest) :: k)) cs) w := by
  have hXc := RunsOn.closed (P := Tryd.prog) (Post := Post) botB
  have M : Meet botB topB [0, 1, 2, g] [0, 1, 2, g] w := by
    refine ⟨fun g hg => by have := nice_of hg; simp; omega, fun b hb => ?_, fun _ _ => .inl trivial, fun b hb hn => absurd hb hn⟩
    simp at hb
    rcases hb with rfl | rfl | rfl | rfl
    · exact G0.tame 0 rfl
    · exact G0.tame 1 rfl
    · exact G0.tame 2 rfl
    · exact hg.tame
  refine op_piece (X := fun _ g w => RunsOn Tryd.prog Post g w) (O := topB) progOk hXc [0, 1, 2, g] [0, 1, 2, g] (fun j => j = p) M ?_ ho hw hk (by rw [hop]; exact hokk) (.agg (vals .u32 n f)) (fun _ => True) (fun TL W hT hkp hW => ?_) ?_
  · rintro j v rfl hv
    rw [hx] at hv; rw [← Option.some.inj hv]; exact vrel_ptr (by simp)
  · obtain ⟨fr, h1⟩ := hg.1
    obtain ⟨fr2, e1, _⟩ := ice_cells [0, 1, 2, g] [0, 1, 2, g] (by simp) h1
    rw [meek_all (vrel_vals _ _ _ _), ← hW] at e1
    have h := run_loadVar_row (P := Tryd.prog) W g t ty (vals .u32 n f) _ _ e1 hu rfl (by rw [hc, vals_size])
    have hx' : Act.eval ⟨TL, []⟩ (.tmp p) = .pointer (some ⟨g, 0, none⟩) := eval_tmp ((hkp p rfl).trans hx)
    refine ⟨W, ?_, rfl, trivial⟩
    unfold execOp
    simp only [hop, hx']
    simp only [Instr.loadAt, Instr.sureAddr, Sem.run_bind, Sem.run_pure, Result.andThen_ok, h]
  · intro σ O1 v' WE wE p hv hH _ _
    rw [fixed_vals σ n f .u32 v' hv]
    exact cont wE (p.kept (fun _ _ => .inl trivial) (idL_stiff M.tame (fun b hb => hb)))
theorem InS.hin {w : World} {s : Option Addr} {len cap : Nat} {f : Nat → Int} (h : InS w s len cap f) : 0 < len → ∃ ib off, s = some ⟨ib, off, none⟩ ∧ Tame w ib ∧ ∀ i, i < len → w.cell? ⟨ib, off + i, none⟩ = some (.int .u8 (f i)) := by
  intro hp
  obtain ⟨b, off, e, hc⟩ := h.rd hp
  rcases h.base with h1 | ⟨b2, off2, e2, t⟩
  · rw [e] at h1; cases h1
  · rw [e] at e2
    cases e2
    exact ⟨b, off, e, t, hc⟩
/-- a call of short.Blocks -/
theorem rl_blocks {b : Frame} {ops : Array Oper} {i len cap : Nat} {rest : List Nat} {k : List Item} {cs : List Frame} {o : Oper} {T : Array Value} {w : World} {x y : Operand} {ts : Array TypeId} {v : Nat → Nat} {s : Option Addr} {f : Nat → Int} (hop : o.op = .call ⟨.value (.func 12), #[x, y], ts⟩) (hv : ∀ j, j < 8 → v j < 4294967296) (G0 : Ground w) (I : InS w s len cap f)
    (ho : ops[i]? = some o) (hw : Region.wanted o (yielded ops T) = true) (hk : b.kind ≠ .early) (hx : Act.eval ⟨T, []⟩ x = .agg (vals .u32 8 (fun j => (v j : Int)))) (hy : Act.eval ⟨T, []⟩ y = .slice s len cap)
    (cont : ∀ w', Kept w w' → RunsOn Tryd.prog Post (G (b.at (Act.put ⟨T, []⟩ o.dst (.agg (vals .u32 8 (fun j => (blocks32 v f (len / 64) j : Int))))) (.inRegion ops rest :: k)) cs) w') : RunsOn Tryd.prog Post (G (b.at ⟨T, []⟩ (.inRegion ops (i :: rest) :: k)) cs) w := by
  have hbody : Tryd.f12.body = some b12 := by unfold b12; rfl
  have hcf := fun w1 : World => run_callF (P := Tryd.prog) (a := ⟨T, []⟩) hop Tryd.func12 rfl hbody w1
  have hmap : (#[x, y] : Array Operand).map (Act.eval ⟨T, []⟩) = #[.agg (vals .u32 8 (fun j => (v j : Int))), .slice s len cap] := by simp [hx, hy]
  rw [hmap] at hcf
  refine run_enter ho hw hk (fun w => (hcf w).1) (fun w => (hcf w).2) ?_
  refine blocks_runs hv I.lt I.le G0 s I.hin fun w' hk' => ?_
  rw [Frame.finish_at, ho]
  exact cont w' hk'
/-- a call of the reference's -/
theorem rl_ref {b : Frame} {ops : Array Oper} {i len cap : Nat} {rest : List Nat} {k : List Item} {cs : List Frame} {o : Oper} {T : Array Value} {w : World} {x y : Operand} {ts : Array TypeId} {v : Nat → Nat} {s : Option Addr} {f : Nat → Int} (hop : o.op = .call ⟨.value (.func 13), #[x, y], ts⟩) (hv : ∀ j, j < 8 → v j < 4294967296) (G0 : Ground w) (I : InS w s len cap f) (hlen : len ≤ 1000000)
    (ho : ops[i]? = some o) (hw : Region.wanted o (yielded ops T) = true) (hk : b.kind ≠ .early) (hx : Act.eval ⟨T, []⟩ x = .agg (vals .u32 8 (fun j => (v j : Int)))) (hy : Act.eval ⟨T, []⟩ y = .slice s len cap)
    (cont : ∀ w', Kept w w' → RunsOn Tryd.prog Post (G (b.at (Act.put ⟨T, []⟩ o.dst (.agg (vals .u32 8 (fun j => (blocks32 v f (len / 64) j : Int))))) (.inRegion ops rest :: k)) cs) w') : RunsOn Tryd.prog Post (G (b.at ⟨T, []⟩ (.inRegion ops (i :: rest) :: k)) cs) w := by
  obtain ⟨c, hbody⟩ : ∃ c, Tryd.f13.body = some c := ⟨_, rfl⟩
  have hcf := fun w1 : World => run_callF (P := Tryd.prog) (a := ⟨T, []⟩) hop Tryd.func13 rfl hbody w1
  have hmap : (#[x, y] : Array Operand).map (Act.eval ⟨T, []⟩) = #[.agg (vals .u32 8 (fun j => (v j : Int))), .slice s len cap] := by simp [hx, hy]
  rw [hmap] at hcf
  refine run_enter ho hw hk (fun w => (hcf w).1) (fun w => (hcf w).2) ?_
  clear hcf hmap hbody
  have hXc := RunsOn.closed (P := Tryd.prog) (Post := Post) botB
  obtain ⟨L, hL⟩ : ∃ L : List Nat, (∀ g, niceG.contains g = true → g ∈ L) ∧ (∀ b ∈ L, Tame w b) ∧ VRel (idL L) (.slice s len cap) (.slice s len cap) := by
    rcases I.base with rfl | ⟨ib, off, rfl, t⟩
    · refine ⟨[0, 1, 2], fun g hg => by have := nice_of hg; simp; omega, fun b hb => ?_, .snil _ _⟩
      simp at hb
      rcases hb with rfl | rfl | rfl
      · exact G0.tame 0 rfl
      · exact G0.tame 1 rfl
      · exact G0.tame 2 rfl
    · refine ⟨[0, 1, 2, ib], fun g hg => by have := nice_of hg; simp; omega, fun b hb => ?_, vrel_slice (by simp) _ _⟩
      simp at hb
      rcases hb with rfl | rfl | rfl | rfl
      · exact G0.tame 0 rfl
      · exact G0.tame 1 rfl
      · exact G0.tame 2 rfl
      · exact t
  have M : Meet botB topB L L w := ⟨hL.1, hL.2.1, fun _ _ => .inl trivial, fun b hb hn => absurd hb hn⟩
  refine call_piece (X := fun _ g w => RunsOn Tryd.prog Post g w) (O := topB) progOk hXc L L M (by kernel_rfl) (fun u hu => ?_) (.agg (vals .u32 8 (fun j => (blocks32 v f (len / 64) j : Int)))) (fun _ => True) (fun W hW => ?_) ?_
  · simp at hu
    rcases hu with rfl | rfl
    · exact .agg _ _ rfl fun i h1 _ => vrel_vals _ _ _ _ _ (Array.getElem_mem h1)
    · exact hL.2.2
  · refine (rblocks_w v hv s len cap hlen I.le f W (fun hp => ?_) I.lt).mono fun e w' h => ⟨h.1, trivial⟩
    obtain ⟨ib, off, e, hc⟩ := I.rd hp
    refine ⟨ib, off, e, fun j hj => ?_⟩
    rw [← ice_cell L L (hc j hj) (.int _ _)]
    exact heap_cell (by rw [hW])
  · intro σ O1 v' WE wE p hv hH _ _
    rw [fixed_vals σ 8 _ .u32 v' hv, Frame.finish_at, ho]
    exact cont wE (p.kept (fun _ _ => .inl trivial) (idL_stiff M.tame (fun b hb => hb)))
end
end Go.Proofs.YtfnncplokombgaaDoor
