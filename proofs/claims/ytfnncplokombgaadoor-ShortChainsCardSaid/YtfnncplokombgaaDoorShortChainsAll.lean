/- Part 20 of 20 of what the proof of this law needs. Merged by merge.py out of: CoChains CoZc ShortChainsRow. -/
import Derived.Test.YtfnncplokombgaaDoorShortChainsAll19
import Derived.Test.YtfnncplokombgaaDoorCards
import Derived.Test.YtfnncplokombgaaDoorTie
import Derived.Test.YtfnncplokombgaaDoorLaid
import Derived.Test.YtfnncplokombgaaDoorRowArr
import Derived.WalkKit
import Derived.ProofKit
import Derived.OpenShut
import Derived.Deep.DeepHandedRow
import Derived.Lib.LaidTab
/- What a call does in company, out of what it does alone (53): the law ShortChains, beside leavers. -/
namespace Go.Proofs.YtfnncplokombgaaDoor
open Go Go.Conc Go.RowKit

theorem OwnC.congr {w : World} {B : Nat} {v : Value} {n : Nat} {f g : Nat → Int} (h : OwnC w B v n f) (e : ∀ i, i < n → f i = g i) : OwnC w B v n g := by
  obtain ⟨a, cap, cur, h1, h2, h3, h4, h5, h6, h7⟩ := h
  exact ⟨a, cap, cur, h1, h2, h3, h4, h5, h6, fun i hi => by rw [h7 i hi, e i hi]⟩
theorem St.swap {N : Nat} {w0 : World} {K M M' : List (Nat × Value)} {listed : Array Bool} {T : Array Value} {w : World} (h : St N w0 K M listed T w) (hM : ∀ i : Nat, listed[i]? = some true → M'[i]? = M[i]?) : St N w0 K M' listed T w :=
  ⟨h.size, h.kept, h.base, fun i p hl hp => h.done i p hl ((hM i hl).symm.trans hp)⟩
theorem St.put2 {N : Nat} {w0 : World} {K M : List (Nat × Value)} {listed : Array Bool} {T : Array Value} {w w' : World} (h : St N w0 K M listed T w) (A : Apart N K M) {i d : Nat} {v : Value} (hk : Kept w0 w') (hp : M[i]? = some (d, v)) : St N w0 K M (listed.setIfInBounds i true) (T.setIfInBounds d v) w' := by
  have h2 := h.put A (Kept.refl w) hp
  exact ⟨h2.size, hk, h2.base, h2.done⟩
def M6_3 (V X A E v1 v3 v5 v7 : Value) : List (Nat × Value) := [(10, V), (11, v1), (12, A), (13, v3), (14, E), (15, v5), (16, X), (7, v7)]
def K6_3 (g a b : Nat) : List (Nat × Value) := [(3, ptrV g), (4, ptrV a), (5, ptrV b)]
def arrS (a : Nat) : Value := .slice (some ⟨a, 0, none⟩) 64 64
def joinF (fa fb : Nat → Int) (j : Nat) : Int := if j < 64 then fa j else fb (j - 64)
/-- where the region stands, ahead of the store -/
structure G3 (w0 : World) (g a b : Nat) (v X : Nat → Nat) (fa fb : Nat → Int) (listed : Array Bool) (T : Array Value) (w : World) (v1 v3 v5 v7 : Value) : Prop where
  st : St 33 w0 (K6_3 g a b) (M6_3 (agg8 v) (agg8 X) (arrS a) (arrS b) v1 v3 v5 v7) listed T w
  c1 : listed[1]? = some true → listed[3]? = some false → OwnC w w0.heap.size v1 0 (joinF fa fb)
  c3 : listed[3]? = some true → listed[5]? = some false → OwnC w w0.heap.size v3 64 (joinF fa fb)
  c5 : listed[5]? = some true → listed[3]? = some true ∧ OwnC w w0.heap.size v5 128 (joinF fa fb)
  c7 : listed[7]? = some true → ∃ h, v7 = ptrV h ∧ w0.heap.size ≤ h ∧ RowC w h (vals .u32 8 (fun _ => 0)) 31
theorem apart6_3 (g a b : Nat) (V X A E v1 v3 v5 v7 : Value) : Apart 33 (K6_3 g a b) (M6_3 V X A E v1 v3 v5 v7) := Apart.of [3, 4, 5] [10, 11, 12, 13, 14, 15, 16, 7] rfl rfl (by decide)
def Inv3 (w0 : World) (g a b : Nat) (v X : Nat → Nat) (fa fb : Nat → Int) (listed : Array Bool) (T : Array Value) (w : World) : Prop :=
  (listed[8]? = some false ∧ ∃ v1 v3 v5 v7, G3 w0 g a b v X fa fb listed T w v1 v3 v5 v7) ∨
  ((∀ i, i < 9 → listed[i]? = some true) ∧ T.size = 33 ∧ Kept w0 w ∧ Knows (K6_3 g a b) T ∧ ∃ h, T[7]? = some (ptrV h) ∧ w0.heap.size ≤ h ∧ RowC w h (vals .u32 8 (fun j => (X j : Int))) 31)
theorem set_ne {listed : Array Bool} {i j : Nat} (h : i ≠ j) : (listed.setIfInBounds i true)[j]? = listed[j]? := Array.getElem?_setIfInBounds_ne h
theorem set_eq {listed : Array Bool} {i : Nat} (h : i < listed.size) : (listed.setIfInBounds i true)[i]? = some true := Array.getElem?_setIfInBounds_self_of_lt h
/-- an operation that only yields a value known ahead -/
theorem G3.still {w0 : World} {g a b : Nat} {v X : Nat → Nat} {fa fb : Nat → Int} {listed : Array Bool} {T : Array Value} {w w' : World} {v1 v3 v5 v7 : Value} (h : G3 w0 g a b v X fa fb listed T w v1 v3 v5 v7) (hk : Kept w w') {i d : Nat} {u : Value} (hi : i ≠ 1 ∧ i ≠ 3 ∧ i ≠ 5 ∧ i ≠ 7) (hp : (M6_3 (agg8 v) (agg8 X) (arrS a) (arrS b) v1 v3 v5 v7)[i]? = some (d, u)) :
    G3 w0 g a b v X fa fb (listed.setIfInBounds i true) (T.setIfInBounds d u) w' v1 v3 v5 v7 := by
  obtain ⟨i1, i3, i5, i7⟩ := hi
  refine ⟨h.st.put (apart6_3 _ _ _ _ _ _ _ _ _ _ _) hk hp, fun h1 h2 => ?_, fun h1 h2 => ?_, fun h1 => ?_, fun h1 => ?_⟩
  · rw [set_ne i1] at h1; rw [set_ne i3] at h2; exact (h.c1 h1 h2).kept hk
  · rw [set_ne i3] at h1; rw [set_ne i5] at h2; exact (h.c3 h1 h2).kept hk
  · rw [set_ne i5] at h1; rw [set_ne i3]; exact ⟨(h.c5 h1).1, (h.c5 h1).2.kept hk⟩
  · rw [set_ne i7] at h1; obtain ⟨x, e, q, r⟩ := h.c7 h1; exact ⟨x, e, q, r.kept hk⟩
set_option maxHeartbeats 4000000 in
theorem reg6_3 {Post : Value → World → Prop} {g a b : Nat} {v X : Nat → Nat} {fa fb : Nat → Int} {T : Array Value} {k : List Item} {cs : List Frame} {w : World} (G0 : Ground w) (F : Fr 33 (K6_3 g a b) T) (r1 : ∃ t, RowC w g (vals .u32 8 (fun j => (v j : Int))) t) (ra : ∃ t, RowC w a (vals .u8 64 fa) t) (rb : ∃ t, RowC w b (vals .u8 64 fb) t)
    (hv : ∀ j, j < 8 → v j < 4294967296) (hfa : ∀ j, j < 64 → 0 ≤ fa j ∧ fa j < 256) (hfb : ∀ j, j < 64 → 0 ≤ fb j ∧ fb j < 256) (hX : blocks32 v (joinF fa fb) (128 / 64) = X)
    (cont : ∀ T' w' h, Fr 33 ((7, ptrV h) :: K6_3 g a b) T' → Kept w w' → w.heap.size ≤ h → RowC w' h (vals .u32 8 (fun j => (X j : Int))) 31 → RunsOn Tryd.prog Post (G ((base 6).at ⟨T', []⟩ k) cs) w') : RunsOn Tryd.prog Post (G ((base 6).at ⟨T, []⟩ (.code p6_3 :: k)) cs) w := by
  rw [p6_3_is]
  have hlow : 2 < w.heap.size := (G0.tame 2 rfl).lt
  have hal : a < w.heap.size := ra.choose_spec.lt
  have hbl : b < w.heap.size := rb.choose_spec.lt
  refine region_runs (P := Tryd.prog) (by kernel_rfl) p6_3_back (Inv3 w g a b v X fa fb) (.inl ⟨?_, undef, undef, undef, undef, St.start F.size (Kept.refl w) F.knows, fun h => (getElem?_repl h).elim, fun h => (getElem?_repl h).elim, fun h => (getElem?_repl h).elim, fun h => (getElem?_repl h).elim⟩) ?_ ?_
  · rw [Array.getElem?_replicate, if_pos (by rw [p6_3_n]; decide)]
  · intro listed T w1 i o rest hs ho hdep hf hI cont
    have hi : i < 9 := by have := (Array.getElem?_eq_some_iff.1 ho).1; rw [p6_3_n] at this; exact this
    have hsz : listed.size = 9 := hs.trans p6_3_n
    rcases hI with ⟨h8, v1, v3, v5, v7, hG⟩ | ⟨hall, _⟩
    rotate_left
    · rw [hall i hi] at hf; cases hf
    have hI := hG.st
    have A := apart6_3 g a b (agg8 v) (agg8 X) (arrS a) (arrS b) v1 v3 v5 v7
    have G1 := G0.kept hI.kept
    have q1 := hI.kept.size
    have ra1 := ra.imp fun _ h => h.kept hI.kept
    have rb1 := rb.imp fun _ h => h.kept hI.kept
    obtain rfl | rfl | rfl | rfl | rfl | rfl | rfl | rfl | rfl := (by omega : i = 0 ∨ i = 1 ∨ i = 2 ∨ i = 3 ∨ i = 4 ∨ i = 5 ∨ i = 6 ∨ i = 7 ∨ i = 8)
    · obtain ⟨o', h1, h2, h3, h4, h5⟩ := op6_3_0
      obtain rfl := Option.some.inj (ho.symm.trans h1)
      refine rl_load8 h2 G1 (r1.imp fun _ h => h.kept hI.kept) ho (wanted_none h4 _) (kindB _) (hI.base (3, _) (List.mem_of_getElem? (i := 0) rfl)) fun w' hk => ?_
      rw [h3]
      exact cont _ w' (.inl ⟨by rw [set_ne (by decide)]; exact h8, v1, v3, v5, v7, hG.still hk (by decide) rfl⟩)
    · obtain ⟨o', h1, h2, h3, h4, h5⟩ := op6_3_1
      obtain rfl := Option.some.inj (ho.symm.trans h1)
      refine rl_new (mk := fun x => .slice (some ⟨x, 0, none⟩) 0 0) ho (wanted_none h4 _) (kindB _) (run_bs0 h2) fun x w' hk hx hr => ?_
      rw [h3]
      refine cont _ w' (.inl ⟨by rw [set_ne (by decide)]; exact h8, .slice (some ⟨x, 0, none⟩) 0 0, v3, v5, v7, ?_, fun h1 h2 => ?_, fun h1 h2 => ?_, fun h1 => ?_, fun h1 => ?_⟩)
      · refine (hI.swap (M' := M6_3 (agg8 v) (agg8 X) (arrS a) (arrS b) (.slice (some ⟨x, 0, none⟩) 0 0) v3 v5 v7) fun j hj => ?_).put (apart6_3 _ _ _ _ _ _ _ _ _ _ _) hk rfl
        match j with
        | 0 => rfl
        | 1 => rw [hf] at hj; cases hj
        | j + 2 => rfl
      · exact OwnC.start _ (by omega) hr
      · rw [set_ne (by decide)] at h1 h2; exact (hG.c3 h1 h2).kept hk
      · rw [set_ne (by decide)] at h1; rw [set_ne (by decide)]; exact ⟨(hG.c5 h1).1, (hG.c5 h1).2.kept hk⟩
      · rw [set_ne (by decide)] at h1; obtain ⟨y, e, q, r⟩ := hG.c7 h1; exact ⟨y, e, q, r.kept hk⟩
    · obtain ⟨o', h1, h2, h3, h4, h5⟩ := op6_3_2
      obtain rfl := Option.some.inj (ho.symm.trans h1)
      refine rl_val ho (wanted_none h4 _) (kindB _) (run_sliceA h2 (hI.evB (List.mem_of_getElem? (i := 1) rfl))) fun w' hk => ?_
      rw [h3]
      exact cont _ w' (.inl ⟨by rw [set_ne (by decide)]; exact h8, v1, v3, v5, v7, hG.still hk (by decide) rfl⟩)
    · obtain ⟨o', h1, h2, h3, h4, h5⟩ := op6_3_3
      obtain rfl := Option.some.inj (ho.symm.trans h1)
      refine rl_append (h := fa) (B := w.heap.size) h2 G1 hlow q1 (hG.c1 (deps_of hdep h5 1 rfl) hf) ra1 hal (by decide) (by decide) ho (wanted_none h4 _) (kindB _) (hI.done 1 _ (deps_of hdep h5 1 rfl) rfl) (hI.done 2 _ (deps_of hdep h5 2 rfl) rfl) fun u w' hk hrow hown => ?_
      rw [h3]
      refine cont _ w' (.inl ⟨by rw [set_ne (by decide)]; exact h8, v1, u, v5, v7, ?_, fun h1 h2 => ?_, fun h1 h2 => ?_, fun h1 => ?_, fun h1 => ?_⟩)
      · refine (hI.swap (M' := M6_3 (agg8 v) (agg8 X) (arrS a) (arrS b) v1 u v5 v7) fun j hj => ?_).put2 (apart6_3 _ _ _ _ _ _ _ _ _ _ _) (hk w hI.kept (Nat.le_refl _)) rfl
        match j with
        | 0 | 1 | 2 => rfl
        | 3 => rw [hf] at hj; cases hj
        | j + 4 => rfl
      · rw [set_eq (by omega)] at h2; cases h2
      · exact hown.congr fun j hj => by
          show (if j < 0 then _ else fa (j - 0)) = joinF fa fb j
          unfold joinF
          rw [if_neg (by omega), if_pos (by omega), Nat.sub_zero]
      · rw [set_ne (by decide)] at h1; have := (hG.c5 h1).1; rw [hf] at this; cases this
      · rw [set_ne (by decide)] at h1; obtain ⟨y, e, q, r⟩ := hG.c7 h1; exact ⟨y, e, q, hrow _ _ _ (by decide) r⟩
    · obtain ⟨o', h1, h2, h3, h4, h5⟩ := op6_3_4
      obtain rfl := Option.some.inj (ho.symm.trans h1)
      refine rl_val ho (wanted_none h4 _) (kindB _) (run_sliceA h2 (hI.evB (List.mem_of_getElem? (i := 2) rfl))) fun w' hk => ?_
      rw [h3]
      exact cont _ w' (.inl ⟨by rw [set_ne (by decide)]; exact h8, v1, v3, v5, v7, hG.still hk (by decide) rfl⟩)
    · obtain ⟨o', h1, h2, h3, h4, h5⟩ := op6_3_5
      obtain rfl := Option.some.inj (ho.symm.trans h1)
      have l3 := deps_of hdep h5 3 rfl
      refine rl_append (h := fb) (B := w.heap.size) h2 G1 hlow q1 (hG.c3 l3 hf) rb1 hbl (by decide) (by decide) ho (wanted_none h4 _) (kindB _) (hI.done 3 _ l3 rfl) (hI.done 4 _ (deps_of hdep h5 4 rfl) rfl) fun u w' hk hrow hown => ?_
      rw [h3]
      refine cont _ w' (.inl ⟨by rw [set_ne (by decide)]; exact h8, v1, v3, u, v7, ?_, fun h1 h2 => ?_, fun h1 h2 => ?_, fun h1 => ?_, fun h1 => ?_⟩)
      · refine (hI.swap (M' := M6_3 (agg8 v) (agg8 X) (arrS a) (arrS b) v1 v3 u v7) fun j hj => ?_).put2 (apart6_3 _ _ _ _ _ _ _ _ _ _ _) (hk w hI.kept (Nat.le_refl _)) rfl
        match j with
        | 0 | 1 | 2 | 3 | 4 => rfl
        | 5 => rw [hf] at hj; cases hj
        | j + 6 => rfl
      · rw [set_ne (by decide), l3] at h2; cases h2
      · rw [set_eq (by omega)] at h2; cases h2
      · refine ⟨by rw [set_ne (by decide)]; exact l3, hown.congr fun j hj => ?_⟩
        show (if j < 64 then joinF fa fb j else fb (j - 64)) = joinF fa fb j
        unfold joinF
        by_cases h : j < 64
        · rw [if_pos h, if_pos h]
        · rw [if_neg h, if_neg h]
      · rw [set_ne (by decide)] at h1; obtain ⟨y, e, q, r⟩ := hG.c7 h1; exact ⟨y, e, q, hrow _ _ _ (by decide) r⟩
    · obtain ⟨o', h1, h2, h3, h4, h5⟩ := op6_3_6
      obtain rfl := Option.some.inj (ho.symm.trans h1)
      have l5 := deps_of hdep h5 5 rfl
      obtain ⟨x, cap, e, hin⟩ := (hG.c5 l5).2.inS (fun j hj => by
        unfold joinF
        split
        · exact hfa j (by omega)
        · exact hfb _ (by omega))
      have ex := hI.evM l5 (i := 5) (d := 15) (v := v5) rfl
      rw [e] at ex
      refine rl_blocksB h2 hv hX G1 hin ho (wanted_none h4 _) (kindB _) (hI.evM (deps_of hdep h5 0 rfl) (i := 0) (d := 10) rfl) ex fun w' hk => ?_
      rw [h3]
      exact cont _ w' (.inl ⟨by rw [set_ne (by decide)]; exact h8, v1, v3, v5, v7, hG.still hk (by decide) rfl⟩)
    · obtain ⟨o', h1, h2, h3, h4, h5⟩ := op6_3_7
      obtain rfl := Option.some.inj (ho.symm.trans h1)
      refine rl_new (mk := ptrV) ho (wanted_none h4 _) (kindB _) (run_alloc8 h2) fun x w' hk hx hr => ?_
      rw [h3]
      refine cont _ w' (.inl ⟨by rw [set_ne (by decide)]; exact h8, v1, v3, v5, ptrV x, ?_, fun h1 h2 => ?_, fun h1 h2 => ?_, fun h1 => ?_, fun h1 => ?_⟩)
      · refine (hI.swap (M' := M6_3 (agg8 v) (agg8 X) (arrS a) (arrS b) v1 v3 v5 (ptrV x)) fun j hj => ?_).put (apart6_3 _ _ _ _ _ _ _ _ _ _ _) hk rfl
        match j with
        | 0 | 1 | 2 | 3 | 4 | 5 | 6 => rfl
        | 7 => rw [hf] at hj; cases hj
        | j + 8 => rfl
      · rw [set_ne (by decide)] at h1 h2; exact (hG.c1 h1 h2).kept hk
      · rw [set_ne (by decide)] at h1 h2; exact (hG.c3 h1 h2).kept hk
      · rw [set_ne (by decide)] at h1; rw [set_ne (by decide)]; exact ⟨(hG.c5 h1).1, (hG.c5 h1).2.kept hk⟩
      · exact ⟨x, rfl, by omega, hr⟩
    · obtain ⟨o', h1, h2, h3, h4, h5⟩ := op6_3_8
      obtain rfl := Option.some.inj (ho.symm.trans h1)
      obtain ⟨x, e, hx, hr⟩ := hG.c7 (deps_of hdep h5 7 rfl)
      have t7 := hI.done 7 (7, v7) (deps_of hdep h5 7 rfl) rfl
      rw [e] at t7
      refine rl_store (n := 8) (f := fun j => (X j : Int)) (vals_size _ _ _) (by kernel_rfl) h2 h3 G1 (by omega) hr (vrel_vals _ _ _ _) (run_store8 h2) ho (wanted_none h4 _) (kindB _) t7 (hI.done 6 _ (deps_of hdep h5 6 rfl) rfl) fun w' hb hrow => ?_
      refine cont _ w' (.inr ⟨fun j hj => ?_, hI.size, hb.kept hI.kept hx, hI.base, x, t7, hx, hrow⟩)
      by_cases h : j = 8
      · subst h; exact set_eq (by omega)
      · rw [set_ne (by omega)]
        exact deps_of hdep h5 j (by
          obtain rfl | rfl | rfl | rfl | rfl | rfl | rfl | rfl := (by omega : j = 0 ∨ j = 1 ∨ j = 2 ∨ j = 3 ∨ j = 4 ∨ j = 5 ∨ j = 6 ∨ j = 7) <;> rfl)
  · intro listed T w1 hl hI
    rcases hI with ⟨h8, _⟩ | ⟨_, hs, hk, hkn, h, h7, hB, hr⟩
    · rw [hl 8 (by rw [p6_3_n]; decide)] at h8; cases h8
    · exact cont T w1 h ⟨hs, knows_cons h7 hkn⟩ hk hB hr
theorem InS.arr {w : World} {a : Nat} {f : Nat → Int} (h : ∃ t, RowC w a (vals .u8 64 f) t) (hf : ∀ j, j < 64 → 0 ≤ f j ∧ f j < 256) : InS w (some ⟨a, 0, none⟩) 64 64 f := by
  obtain ⟨t, h⟩ := h
  refine ⟨Nat.le_refl _, .inr ⟨a, 0, rfl, h.tame⟩, fun _ => ⟨a, 0, rfl, fun j hj => ?_⟩, hf⟩
  obtain ⟨fr, hh⟩ := h.1
  unfold World.cell?
  dsimp only
  rw [hh, Nat.zero_add]
  simp [vals_get? _ _ _ _ hj]
set_option maxHeartbeats 4000000 in
theorem shortChains_runs {w : World} {v : Nat → Nat} {fa fb : Nat → Int} (G0 : Ground w) (hv : ∀ j, j < 8 → v j < 4294967296) (hfa : ∀ j, j < 64 → 0 ≤ fa j ∧ fa j < 256) (hfb : ∀ j, j < 64 → 0 ≤ fb j ∧ fb j < 256) :
    RunsOn Tryd.prog (Held w) (G (Frame.enter Tryd.prog 6 #[agg8 v, .agg (vals .u8 64 fa), .agg (vals .u8 64 fb)] .normal) []) w := by
  have hbody : Tryd.f6.body = some b6 := by unfold b6; rfl
  obtain ⟨VA, hVA⟩ : ∃ VA, VA = Value.agg (vals .u8 64 fa) := ⟨_, rfl⟩
  obtain ⟨VB, hVB⟩ : ∃ VB, VB = Value.agg (vals .u8 64 fb) := ⟨_, rfl⟩
  rw [← hVA, ← hVB]
  rw [enter_at (P := Tryd.prog) #[agg8 v, VA, VB] Tryd.func6 hbody]
  obtain ⟨T0, hT0⟩ : ∃ T0 : Array Value, T0 = #[agg8 v, VA, VB] ++ Array.replicate (Tryd.f6.ntmps - (#[agg8 v, VA, VB] : Array Value).size) undef := ⟨_, rfl⟩
  rw [← hT0]
  have F0 : Fr 33 [(0, agg8 v), (1, VA), (2, VB)] T0 := by
    refine ⟨by rw [hT0]; simp, knows_cons ?_ (knows_cons ?_ (knows_cons ?_ (knows_nil _)))⟩
    · rw [hT0, Array.getElem?_append_left (by simp)]; simp
    · rw [hT0, Array.getElem?_append_left (by simp)]; simp
    · rw [hT0, Array.getElem?_append_left (by simp)]; simp
  clear hT0
  have hr0 : List.range (cO p6_0).size = [0, 1, 2, 3] := by kernel_rfl
  have hr1 : List.range (cO p6_1).size = [0, 1] := by kernel_rfl
  obtain ⟨o0, a1, a2, a3, a4, _⟩ := op6_0_0
  refine run_ctl (fun w => step_code b6_is) (run_ctl (fun w => step_reg p6_0_is hr0) ?_)
  refine rl_new (mk := ptrV) a1 (wanted_none a4 _) (kindB _) (run_box8 a2 (F0.ev 0 rfl)) (F0.nextN a3 (by decide) rfl ?_)
  intro g T1 w1 F1 k1 hg r1
  obtain ⟨o1, b1, b2, b3, b4, _⟩ := op6_0_1
  refine rl_new (mk := ptrV) b1 (wanted_none b4 _) (kindB _) (run_box64 b2 ((F1.ev 2 rfl).trans hVA)) (F1.nextN b3 (by decide) rfl ?_)
  intro a T2 w2 F2 k2 ha ra2
  have r2 := r1.kept k2
  have k2 := k1.trans k2
  obtain ⟨o2, c1, c2, c3, c4, _⟩ := op6_0_2
  refine rl_new (mk := ptrV) c1 (wanted_none c4 _) (kindB _) (run_box64 c2 ((F2.ev 4 rfl).trans hVB)) (F2.nextN c3 (by decide) rfl ?_)
  intro b T3 w3 F3 k3 hb rb3
  have r3 := r2.kept k3
  have ra3 := ra2.kept k3
  have k3 := k2.trans k3
  obtain ⟨o3, d1, d2, d3, d4, _⟩ := op6_0_3
  refine rl_val d1 (wanted_none d4 _) (kindB _) (run_assignV d2 rfl) (F3.next d3 (by decide) rfl ?_)
  intro T4 w4 F4 k4
  have r4 := r3.kept k4
  have ra4 := ra3.kept k4
  have rb4 := rb3.kept k4
  have k4 := k3.trans k4
  refine run_ctl (fun w => stepG_region_end) (run_ctl (fun w => stepG_seq) (run_ctl (fun w => stepG_seq) (run_ctl (fun w => step_reg p6_1_is hr1) ?_)))
  obtain ⟨o4, e1, e2, e3, e4, _⟩ := op6_1_0
  refine rl_wakes e2 (G0.kept k4) e1 (wanted_none e4 _) (kindB _) (F4.next e3 (by decide) rfl ?_)
  intro T5 w5 F5 k5
  have r5 := r4.kept k5
  have ra5 := ra4.kept k5
  have rb5 := rb4.kept k5
  have k5 := k4.trans k5
  obtain ⟨o5, f1, f2, f3, f4, _⟩ := op6_1_1
  refine rl_val f1 (wanted_none f4 _) (kindB _) (run_unot f2 (F5.ev 0 rfl)) (F5.next f3 (by decide) rfl ?_)
  intro T6 w6 F6 k6
  have r6 := r5.kept k6
  have ra6 := ra5.kept k6
  have rb6 := rb5.kept k6
  have k6 := k5.trans k6
  refine run_ctl (fun w => stepG_region_end) (run_ctl (fun w => stepG_cond (F6.ev (v := .bool false) 0 rfl)) ?_)
  rw [if_neg (by decide)]
  refine run_ctl (fun w => stepG_skip) (run_ctl (fun w => stepG_seq) ?_)
  obtain ⟨Y, hY⟩ : ∃ Y, blocks32 v fa (64 / 64) = Y := ⟨_, rfl⟩
  obtain ⟨X, hX⟩ : ∃ X, blocks32 Y fb (64 / 64) = X := ⟨_, rfl⟩
  have hJ : blocks32 v (joinF fa fb) (128 / 64) = X := by
    rw [← hX, ← hY, show (128 : Nat) / 64 = 1 + 1 from rfl, blocks32_add, show (64 : Nat) / 64 = 1 from rfl]
    rw [blocks32_congr (f := joinF fa fb) (g := fa) 1 (fun j hj => by unfold joinF; exact if_pos (by omega))]
    exact blocks32_congr 1 (fun j hj => by
      show (if 1 * 64 + j < 64 then _ else _) = _
      rw [if_neg (by omega)]
      congr 1
      omega)
  refine reg6_3 (g := g) (a := a) (b := b) (v := v) (X := X) (fa := fa) (fb := fb) (G0.kept k6) ⟨F6.size, knows_cons (F6.at 5 rfl) (knows_cons (F6.at 4 rfl) (knows_cons (F6.at 3 rfl) (knows_nil _)))⟩ ⟨_, r6⟩ ⟨_, ra6⟩ ⟨_, rb6⟩ hv hfa hfb hJ fun T7 w7 h F7 k7 hh rh => ?_
  have r7 := r6.kept k7
  have ra7 := ra6.kept k7
  have rb7 := rb6.kept k7
  have k7 := k6.trans k7
  refine run_ctl (fun w => stepG_seq) ?_
  refine reg6_4 (g := g) (a := a) (b := b) (h := h) (v := v) (X := X) (Y := Y) (G0.kept k7) ⟨F7.size, knows_cons (F7.at 1 rfl) (knows_cons (F7.at 2 rfl) (knows_cons (F7.at 3 rfl) (knows_cons (F7.at 0 rfl) (knows_nil _))))⟩
    ⟨_, r7⟩ ⟨_, rh⟩ (InS.arr ⟨_, ra7⟩ hfa) (InS.arr ⟨_, rb7⟩ hfb) hv (by rw [← hY]; exact blocks32_lt v fa hv _) hY hX fun T8 w8 F8 k8 => ?_
  have k8 := k7.trans k8
  exact run_ctl (fun w => stepG_ret') (run_end rfl Tryd.func6 rfl (F8.at 20 rfl) (by kernel_rfl) fun d => ⟨rfl, k8.at d⟩)
end Go.Proofs.YtfnncplokombgaaDoor

/- What a call does in company, out of what it does alone (54): the law ShortChains, as its row asks for it. -/
namespace Go.Proofs.YtfnncplokombgaaDoor
open Go Go.Conc Go.RowKit

theorem shortChains_row {W : World} {f0 fa fb : Nat → Int} (hf0 : ∀ j, j < 8 → 0 ≤ f0 j ∧ f0 j < 4294967296) (hfa : ∀ j, j < 64 → 0 ≤ fa j ∧ fa j < 256) (hfb : ∀ j, j < 64 → 0 ≤ fb j ∧ fb j < 256) (hT : TabsW W) :
    RunsOn Tryd.prog (Held W) (G (Frame.enter Tryd.prog 6 #[.agg (vals .u32 8 f0), .agg (vals .u8 64 fa), .agg (vals .u8 64 fb)] .normal) []) W := by
  obtain ⟨v, e, hv⟩ := nat_vals8 f0 hf0
  rw [e]
  exact shortChains_runs (ground_of hT) hv hfa hfb
end Go.Proofs.YtfnncplokombgaaDoor

/- ShortChains: the row (for every input the law returns true, and each argument reads afterwards as it read before; the three tables read as the program's text lays them) and its tied card. -/
namespace Go.Proofs.YtfnncplokombgaaDoor.shortChains
open Go.ChangeShapes Go.WideShapes Go.ChangeAt Go.RowKit

theorem own : ownKnob Tryd.prog.godebug = none := by kernel_rfl
theorem laidOut : laidOutB Tryd.prog = true := by kernel_rfl
theorem gT : Tryd.prog.globalNamed "cribble/word.turns" = some 1 := by kernel_rfl
theorem gTt : (Tryd.prog.globals[1]?).map (·.type) = some 50 := by kernel_rfl
theorem gS : Tryd.prog.globalNamed "cribble/word.shifts" = some 0 := by kernel_rfl
theorem gSt : (Tryd.prog.globals[0]?).map (·.type) = some 50 := by kernel_rfl
theorem gK : Tryd.prog.globalNamed "cribble/table.long" = some 2 := by kernel_rfl
theorem gKt : (Tryd.prog.globals[2]?).map (·.type) = some 56 := by kernel_rfl
theorem cA : Tryd.prog.cellsOf 50 = 6 := by kernel_rfl
theorem cB : Tryd.prog.cellsOf 49 = 3 := by kernel_rfl
theorem cC : Tryd.prog.cellsOf 3 = 1 := by kernel_rfl
theorem cD : Tryd.prog.cellsOf 56 = 80 := by kernel_rfl
theorem cE : Tryd.prog.cellsOf 42 = 1 := by kernel_rfl
theorem tabs {W : World} (h : laidMetH Tryd.prog Rows.shortChainsRow.laid W) : TabsW W := by
  have h' : laidMet Tryd.prog Rows.shortChainsRow.laid W := h
  obtain ⟨ps, ⟨g2, t2, c2, u2, p2, q2, hg2, ht2, hv2, hd2, ⟨g0, t0, c0, u0, p0, q0, hg0, ht0, hv0, hd0, ⟨g1, t1, c1, u1, p1, q1, hg1, ht1, hv1, hd1, _, _⟩, _⟩, _⟩, _⟩ := h'
  obtain rfl := Option.some.inj (gT.symm.trans hg0)
  obtain rfl := Option.some.inj (gTt.symm.trans ht0)
  obtain rfl := Option.some.inj (gS.symm.trans hg1)
  obtain rfl := Option.some.inj (gSt.symm.trans ht1)
  obtain rfl := Option.some.inj (gK.symm.trans hg2)
  obtain rfl := Option.some.inj (gKt.symm.trans ht2)
  have e0 := cells_of_tab23 (k := .i64) (r0 := [2, 13, 22]) (r1 := [6, 11, 25]) Tryd.underlying50 Tryd.underlying49 Tryd.underlying3 cC cB cA hd0
  have e1 := cells_of_tab23 (k := .i64) (r0 := [7, 18, 3]) (r1 := [17, 19, 10]) Tryd.underlying50 Tryd.underlying49 Tryd.underlying3 cC cB cA hd1
  have e2 := Lib.cells_of_tab (k := .u64) (zs := List.map (fun n : Nat => (n : Int)) k64l) Tryd.underlying56 Tryd.underlying42 cE cD hd2
  refine ⟨⟨fun j hj => laid_cell gT hv0 e0 j hj, fun j hj => laid_cell gS hv1 e1 j hj⟩, fun j hj => ?_⟩
  have hj' : j < k64l.length := hj
  have h2 := laid_cell gK hv2 e2 j (by rw [List.length_map]; exact hj')
  rw [h2]
  unfold k64c
  simp [List.getD, hj']

theorem contract (H : Type) (enc : TypeId × Value → H) (W : World) (base : Nat) (args : Array Value) (ds gs : List (DataW H)) (before : List MemPlace)
    (hval0 : ∀ (j : Nat) t v, Tryd.f6.params[j]? = some t → args[j]? = some v → Value.okWide Tryd.prog W .any base t v)
    (hW : DataW.Whole enc Tryd.prog Tryd.f6.params.toList Rows.shortChainsSpec.vars false W args.toList ds gs before) (hL : laidMetH Tryd.prog Rows.shortChainsRow.laid W) :
    RunsOn Tryd.prog (fun v W' => Rows.shortChainsSpec.post enc Tryd.prog Tryd.f6 false true false false W args v W') (Go.Conc.G (Frame.enter Tryd.prog 6 args .normal) []) W := by
  have hval : ∀ (j : Nat) t v, Tryd.f6.params[j]? = some t → args[j]? = some v → Value.okWide Tryd.prog W .any base t v := hval0
  have hW' := hW
  obtain ⟨p, q, hA0, hV, rfl, hfz, hnd⟩ := hW
  have hA : DataW.TrodAll enc Tryd.prog W 0 (fun _ => true) true Tryd.f6.params.toList args.toList ds p := hA0
  rw [Tryd.params6] at hA hval
  obtain ⟨v0, vs0, d0, ds0, p0, q0, hargs, rfl, rfl, h0, r0⟩ := trodAll_cons hA
  obtain ⟨v1, vs1, d1, ds1, p1, q1, rfl, rfl, rfl, h1, r1⟩ := trodAll_cons r0
  obtain ⟨v2, vs2, d2, ds2, p2, q2, rfl, rfl, rfl, h2, r2⟩ := trodAll_cons r1
  obtain ⟨rfl, rfl, rfl⟩ := trodAll_nil r2
  obtain rfl : args = #[v0, v1, v2] := by cases args; simp_all
  obtain ⟨rfl, rfl⟩ := trodVars_none hV
  obtain ⟨cs0, rfl, _, _⟩ : ∃ cs, v0 = .agg cs ∧ cs.size = Tryd.prog.cellsOf 31 ∧ Row.okWide Tryd.prog W .any base 31 cs := by
    have := hval 0 31 v0 rfl rfl
    simpa [Value.okWide, Tryd.underlying31] using this
  have lt0 : ∀ x ∈ p0, x.block < W.heap.size := by obtain ⟨m, hm⟩ := h0; exact DataW.trod_lt m _ _ _ hm
  obtain ⟨f0, rfl, hf0⟩ := open_arr (k := .u32) (n := 8) Tryd.underlying31 Tryd.underlying24 (by kernel_rfl) (by kernel_rfl) h0
  obtain ⟨cs1, rfl, _, _⟩ : ∃ cs, v1 = .agg cs ∧ cs.size = Tryd.prog.cellsOf 36 ∧ Row.okWide Tryd.prog W .any base 36 cs := by
    have := hval 1 36 v1 rfl rfl
    simpa [Value.okWide, Tryd.underlying36] using this
  have lt1 : ∀ x ∈ p1, x.block < W.heap.size := by obtain ⟨m, hm⟩ := h1; exact DataW.trod_lt m _ _ _ hm
  obtain ⟨f1, rfl, hf1⟩ := open_arr (k := .u8) (n := 64) Tryd.underlying36 Tryd.underlying5 (by kernel_rfl) (by kernel_rfl) h1
  obtain ⟨cs2, rfl, _, _⟩ : ∃ cs, v2 = .agg cs ∧ cs.size = Tryd.prog.cellsOf 36 ∧ Row.okWide Tryd.prog W .any base 36 cs := by
    have := hval 2 36 v2 rfl rfl
    simpa [Value.okWide, Tryd.underlying36] using this
  have lt2 : ∀ x ∈ p2, x.block < W.heap.size := by obtain ⟨m, hm⟩ := h2; exact DataW.trod_lt m _ _ _ hm
  obtain ⟨f2, rfl, hf2⟩ := open_arr (k := .u8) (n := 64) Tryd.underlying36 Tryd.underlying5 (by kernel_rfl) (by kernel_rfl) h2
  clear hA0 hval0
  simp only [List.append_nil] at hW'
  refine (shortChains_row (fun j hj => bd_u32 (hf0 j hj)) (fun j hj => bd_u8 (hf1 j hj)) (fun j hj => bd_u8 (hf2 j hj)) (tabs hL)).mono fun v W' ⟨he, hk⟩ => ?_
  subst he
  have bel := hk.below
  exact ⟨_, _, _, [], _, [], hW', trodAll_mk1 (shut_bool Tryd.underlying4 _), (trodAll_cons_mk (Below.trod laidOut (by kernel_rfl) (of_decide_eq_true (by kernel_rfl)) h0 bel lt0) (trodAll_cons_mk (Below.trod laidOut (by kernel_rfl) (of_decide_eq_true (by kernel_rfl)) h1 bel lt1) (trodAll_cons_mk (Below.trod laidOut (by kernel_rfl) (of_decide_eq_true (by kernel_rfl)) h2 bel lt2) trodAll_mk0))), rfl, bel.frame _, fun h => by cases h⟩

/-- a world for the witness: the settled one, the tables holding what their initialisers lay -/
noncomputable def laidWorld (os : Os) : World :=
  { World.holding Tryd.prog os ⟨#[], #[], []⟩ with heap := (((World.holding Tryd.prog os ⟨#[], #[], []⟩).heap.modify 1 (layCells #[.int .i64 2, .int .i64 13, .int .i64 22, .int .i64 6, .int .i64 11, .int .i64 25])).modify 0 (layCells #[.int .i64 7, .int .i64 18, .int .i64 3, .int .i64 17, .int .i64 19, .int .i64 10])).modify 2 (layCells #[.int .u64 4794697086780616226, .int .u64 8158064640168781261, .int .u64 13096744586834688815, .int .u64 16840607885511220156, .int .u64 4131703408338449720, .int .u64 6480981068601479193, .int .u64 10538285296894168987, .int .u64 12329834152419229976, .int .u64 15566598209576043074, .int .u64 1334009975649890238, .int .u64 2608012711638119052, .int .u64 6128411473006802146, .int .u64 8268148722764581231, .int .u64 9286055187155687089, .int .u64 11230858885718282805, .int .u64 13951009754708518548, .int .u64 16472876342353939154, .int .u64 17275323862435702243, .int .u64 1135362057144423861, .int .u64 2597628984639134821, .int .u64 3308224258029322869, .int .u64 5365058923640841347, .int .u64 6679025012923562964, .int .u64 8573033837759648693, .int .u64 10970295158949994411, .int .u64 12119686244451234320, .int .u64 12683024718118986047, .int .u64 13788192230050041572, .int .u64 14330467153632333762, .int .u64 15395433587784984357, .int .u64 489312712824947311, .int .u64 1452737877330783856, .int .u64 2861767655752347644, .int .u64 3322285676063803686, .int .u64 5560940570517711597, .int .u64 5996557281743188959, .int .u64 7280758554555802590, .int .u64 8532644243296465576, .int .u64 9350256976987008742, .int .u64 10552545826968843579, .int .u64 11727347734174303076, .int .u64 12113106623233404929, .int .u64 14000437183269869457, .int .u64 14369950271660146224, .int .u64 15101387698204529176, .int .u64 15463397548674623760, .int .u64 17586052441742319658, .int .u64 1182934255886127544, .int .u64 1847814050463011016, .int .u64 2177327727835720531, .int .u64 2830643537854262169, .int .u64 3796741975233480872, .int .u64 4115178125766777443, .int .u64 5681478168544905931, .int .u64 6601373596472566643, .int .u64 7507060721942968483, .int .u64 8399075790359081724, .int .u64 8693463985226723168, .int .u64 9568029438360202098, .int .u64 10144078919501101548, .int .u64 10430055236837252648, .int .u64 11840083180663258601, .int .u64 13761210420658862357, .int .u64 14299343276471374635, .int .u64 14566680578165727644, .int .u64 15097957966210449927, .int .u64 16922976911328602910, .int .u64 17689382322260857208, .int .u64 500013540394364858, .int .u64 748580250866718886, .int .u64 1242879168328830382, .int .u64 1977374033974150939, .int .u64 2944078676154940804, .int .u64 3659926193048069267, .int .u64 4368137639120453308, .int .u64 4836135668995329356, .int .u64 5532061633213252278, .int .u64 6448918945643986474, .int .u64 6902733635092675308, .int .u64 7801388544844847127]) }
theorem laid_met (os : Os) : laidMet Tryd.prog Rows.shortChainsRow.laid ((laidWorld os).forCall (fun _ _ => 0) ⟨#[], #[.agg #[.int .u32 0, .int .u32 0, .int .u32 0, .int .u32 0, .int .u32 0, .int .u32 0, .int .u32 0, .int .u32 0], .agg (vals .u8 64 (fun _ => 0)), .agg (vals .u8 64 (fun _ => 0))], []⟩).memory :=
  laidMet_of_run' 12 (by kernel_rfl) (by kernel_rfl)
theorem reads (os : Os) {H : Type} (enc : TypeId × Value → H) : ∃ places, DataW.whole enc Tryd.prog ((laidWorld os).forCall (fun _ _ => 0) ⟨#[], #[.agg #[.int .u32 0, .int .u32 0, .int .u32 0, .int .u32 0, .int .u32 0, .int .u32 0, .int .u32 0, .int .u32 0], .agg (vals .u8 64 (fun _ => 0)), .agg (vals .u8 64 (fun _ => 0))], []⟩).memory Tryd.f6.params.toList Rows.shortChainsSpec.vars false (#[.agg #[.int .u32 0, .int .u32 0, .int .u32 0, .int .u32 0, .int .u32 0, .int .u32 0, .int .u32 0, .int .u32 0], .agg (vals .u8 64 (fun _ => 0)), .agg (vals .u8 64 (fun _ => 0))] : Array Value).toList 12 = some ([.agg [.lit (.int .u32 0), .lit (.int .u32 0), .lit (.int .u32 0), .lit (.int .u32 0), .lit (.int .u32 0), .lit (.int .u32 0), .lit (.int .u32 0), .lit (.int .u32 0)], .agg (List.replicate 64 (.lit (.int .u8 0))), .agg (List.replicate 64 (.lit (.int .u8 0)))], [], places) :=
  ⟨[], by kernel_rfl⟩

set_option maxRecDepth 100000 in
theorem lifted (os : Os) (started : os.Started) (H : Type) (enc : TypeId × Value → H) (F : Stop.Interp) :
    ReturnsInLeavingWide {} Tryd.checked os 6 .any ((OpenSpec.ofChange Rows.shortChainsSpec).preRow enc Tryd.prog Tryd.f6 Rows.shortChainsRow.domain false Rows.shortChainsRow.laid) (((OpenSpec.ofChange Rows.shortChainsSpec).at F).post enc Tryd.prog Tryd.f6 false true false false) := by
  obtain ⟨places, hx⟩ := reads os enc
  refine returnsInLeavingWide_of_row (C := Tryd.checked) (s := OpenSpec.ofChange Rows.shortChainsSpec) (F := F) own started Tryd.func6
    (witness_row_at (enc := enc) (C := Tryd.checked) false (laidWorld os) #[.agg #[.int .u32 0, .int .u32 0, .int .u32 0, .int .u32 0, .int .u32 0, .int .u32 0, .int .u32 0, .int .u32 0], .agg (vals .u8 64 (fun _ => 0)), .agg (vals .u8 64 (fun _ => 0))] rfl (by kernel_rfl) (by kernel_rfl) (by kernel_rfl)
      (OpenSpec.preRow_of_cond 12 hx (by kernel_rfl) (fun k hk => by cases hk) (by kernel_rfl) (laid_met os))) ?_
  intro W base args ds gs before hval hW hL
  exact contract H enc W base args ds gs before hval hW hL

theorem said : Rows.ShortChainsSaid :=
  OpenClaim.holds_of_wide_leaving 6 Tryd.f6 rfl rfl rfl rfl rfl rfl rfl ⟨rfl, rfl, rfl, rfl, rfl⟩ rfl rfl rfl rfl rfl (by kernel_rfl) Tryd.func6 (by kernel_rfl)
    (of_decide_eq_true (by kernel_rfl)) (by unfold Func.isWrapper; first | (rw [if_pos (by decide +kernel)]; kernel_rfl) | (rw [if_neg (by decide +kernel)]; exact ⟨rfl, rfl⟩))
    (fun os started H enc _ => by rw [OpenClaim.pre_eq_preRow]; exact lifted os started H enc (fun _ _ _ => 0))

theorem plain (f : FuncId) (fn : Func) (hf : Tryd.pinned.checked.prog.funcNamed "cribble/cribblelaw07.ShortChains" = some f) (hfn : Tryd.pinned.checked.prog.funcs[f]? = some fn) :
    false = Tryd.pinned.checked.prog.looks [] ∧ ∀ (j : Nat) t, fn.params[j]? = some t → Tryd.pinned.checked.prog.wantsStandIn t = false := by
  obtain rfl : f = 6 := Option.some.inj ((show Tryd.prog.funcNamed "cribble/cribblelaw07.ShortChains" = some 6 by kernel_rfl).symm.trans hf) |>.symm
  obtain rfl : fn = Tryd.f6 := (Option.some.inj (Tryd.func6.symm.trans hfn)).symm
  refine ⟨by kernel_rfl, fun j t ht => ?_⟩
  rw [Tryd.params6] at ht
  have hm := Array.mem_of_getElem? ht
  simp at hm
  rcases hm with rfl | rfl
  all_goals first | exact (show Tryd.prog.wantsStandIn 36 = false by kernel_rfl) | exact (show Tryd.prog.wantsStandIn 31 = false by kernel_rfl)

theorem card : Rows.ShortChainsCardSaid :=
  tied_goes .later _ _ _ said (by kernel_rfl) shortChains_row_tie rfl ⟨rfl, rfl⟩ (by kernel_rfl) rfl plain (by kernel_rfl)
end Go.Proofs.YtfnncplokombgaaDoor.shortChains
namespace Go.Proofs.YtfnncplokombgaaDoor
theorem shortChains_holds : Rows.ShortChainsCardSaid := shortChains.card
#print axioms shortChains_holds
end Go.Proofs.YtfnncplokombgaaDoor
