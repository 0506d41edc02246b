/- Part 18 of 39 of what the proof of this law needs. Put together by a program out of the texts: WrE WrF WrG. -/
import Derived.Test.YtdobjciaikofdaaGreatDoorTopShakeAll17
namespace Go.Proofs.YtdobjciaikofdaaGreatDoor
section
open Go Go.Conc Go.RowKit Go.Shelf Bt
attribute [local go_sem] vals_get? vals_get vals_size rowAt_at rowAt_past hasRow_at hasRow_past run_loadRow run_storeCells_row setRow_at setRow_past lt_s2 lt_s3 lt_s4 lt_s5 lt_s6
attribute [local go_sem ↓] loadRow_is
noncomputable def bWr : Code := (Tryz.f105.body).getD .skip
noncomputable def pW0 : Code := cF bWr
noncomputable def rW : Code := cS bWr
noncomputable def pW3 : Code := cF (cS rW)
noncomputable def pW4 : Code := cF (cS (cS rW))
noncomputable def rW2 : Code := cS (cS (cS rW))
noncomputable def pW5 : Code := cF (cF rW2)
noncomputable def LWr : Code := cF (cF (cS (cF rW2)))
noncomputable def pW12 : Code := cF (cS rW2)
noncomputable def pW6 : Code := cF LWr
noncomputable def BWr : Code := cF (cS (cS LWr))
noncomputable def pW7 : Code := cF BWr
noncomputable def DWr : Code := cS BWr
theorem LWr_is : LWr = .seq pW6 (.seq (.cond (.tmp 31) .skip (.exit 0)) (.block 1 BWr)) := by kernel_rfl
theorem BWr_is : BWr = .seq pW7 DWr := by kernel_rfl
def absorb1 (s : Spg) (n : Nat) (g : Nat -> Nat) : Spg :=
 if s.at_ + n = s.rate then { s with a := permF (lanX s.a s.at_ n g), at_ := 0 } else { s with a := lanX s.a s.at_ n g, at_ := s.at_ + n }
set_option maxRecDepth 100000 in
set_option maxHeartbeats 4000000 in
theorem body_U (x1 x2 x3 x4 x5 x6 x8 x9 x10 x11 x12 x13 x14 x15 x16 x17 x18 x19 x20 x21 x22 x23 x24 x25 x26 x27 x28 x29 x30 x31 x32 x33 x34 x35 x36 x37 x38 x39 x40 x41 x42 x43 x44 x45 x46 x47 x48 x49 x50 x51 x52 x53 x54 x55 x56 x57 x58 x59 x60 x61 x62 x63 x64 x65 x66 x67 : Value) (b : Nat) (s : Spg) (ok : s.Ok) (ib o n cp : Nat) (hn : n <= cp) (hat : s.at_ + n <= s.rate) (g : Nat -> Nat) (hg : ∀ i, i < n -> g i < 256) (w : World) (hs : Sp w b s) (ht : TabK w) (hbt : b ≠ 8 /\ b ≠ 9) (hr : ∀ i, i < n -> w.cell? ⟨ib, o + i, none⟩ = some (.int .u8 (g i))) :
  DWr.wp Tryz.prog (fun e a' w' => e = .normal /\ a'.defers = [] /\ (a'.tmps.size = 68 /\ a'.tmps[0]? = some (.pointer (some ⟨b, 0, none⟩)) /\ a'.tmps[1]? = some x1 /\ a'.tmps[6]? = some x6 /\ a'.tmps[29]? = some x29 /\ ∃ t fr, w'.heap[b]? = some (.cells (spC (absorb1 s n g)) t fr) /\ fr.2 <= fr.1))
   ⟨#[.pointer (some ⟨b, 0, none⟩), x1, x2, x3, x4, x5, x6, .slice (some ⟨ib, o, none⟩) n cp, x8, x9, x10, x11, x12, x13, x14, x15, x16, x17, x18, x19, x20, x21, x22, x23, x24, x25, x26, x27, x28, x29, x30, x31, x32, x33, x34, x35, x36, x37, x38, x39, x40, x41, x42, x43, x44, x45, x46, x47, x48, x49, x50, x51, x52, x53, x54, x55, x56, x57, x58, x59, x60, x61, x62, x63, x64, x65, x66, x67], []⟩ w := by
 have HT := Lib.hid ht
 have HS := Lib.hid hs
 have OK := Lib.hid ok
 have HG := Lib.hid hg
 have HR : Hid (reads w (some ⟨ib, o, none⟩) n .u8 (fun j => (g j : Int))) := Lib.hid (fun _ => ⟨ib, o, rfl, hr⟩)
 have hw1 : IntKind.i64.wrap ((s.at_ : Int) + (n : Int)) = ((s.at_ + n : Nat) : Int) := by rw [IntKind.wrap_i64]; have := ok.rate; omega
 have hrt := ok.rate
 clear ht hs hg hr ok
 unfold DWr BWr LWr rW2 rW bWr
 simp only [cF, cS, Option.getD_some, Tryz.f105]
 go_wp2_with fail
 refine region_held_tail 10 (fun W => Sp W b s) (by kernel_rfl) (by kernel_rfl) (fun _ _ _ _ _ h => by obtain ⟨h, _⟩ := h; cases h) HS.out.drew ?_
 simp only [List.take_succ_cons, List.take_zero, List.drop_succ_cons, List.drop_zero]
 iterate 10
  apply wpHeld_step rfl
  ·intro W hW
   have c1 := hW.at_
   have c3 := hW.load Tryz.prog
   go_simp
   exact rfl
  simp only [Act.put, List.setIfInBounds_toArray, List.set_cons_zero, List.set_cons_succ]
 unfold wpHeld
 refine wpListS_step fun K2 hK2 => ?_
 go_simp
 refine (lanX_w s.a OK.out.a s.at_ (by omega) _ n cp hn g _ (by omega) (reads_drewN 1 HR.out) HG.out).mono ?_
 rintro e w3 ⟨rfl, hb⟩
 have S3 := HS.out.drew.below (Nat.le_refl _) hb
 refine hK2.out _ _ (fun _ => S3) ?_
 refine wpListS_step fun K3 hK3 => ?_
 go_simp
 refine hK3.out _ _ (fun _ => S3) ?_
 refine wpListS_step fun K4 hK4 => ?_
 go_simp
 refine hK4.out _ _ (fun _ => S3) ?_
 refine wpListS_step fun K5 hK5 => ?_
 have hst := S3.store Tryz.prog (lanX s.a s.at_ n g)
 go_simp
 refine hK5.out _ _ (fun h => absurd rfl h) (wpListS_last ?_)
 have S5 := S3.row { s with a := lanX s.a s.at_ n g }
 have G5 : w.grownBy (w3.setRow b (spC { s with a := lanX s.a s.at_ n g })) (some b) := gb_trans (gb_call (gb_below (bl_drew (bl_refl w))) hb) (gb_row _ _ _)
 have ok5 : ∀ j, j < 25 -> lanX s.a s.at_ n g j < 18446744073709551616 := fun j _ => (lanX_is _ _ _ _ HG.out j).2
 generalize w3.setRow b (spC { s with a := lanX s.a s.at_ n g }) = w5 at S5 G5 ⊢
 clear hst S3 hb hK2 hK3 hK4 hK5
 have T5 := Lib.hid (HT.out.grown hbt G5)
 have O5 := Lib.hid ok5
 have HS5 := Lib.hid S5
 have c1 := S5.at_
 have c2 := (S5.cell 27).2
 clear S5 G5 ok5
 go_wp2_with fail
 have ev : (s.at_ : Int) + (n : Int) = ((s.at_ + n : Nat) : Int) := by omega
 rw [ev, HS5.out.setAt]
 have S6 := HS5.out.row { rate := s.rate, suf := s.suf, a := lanX s.a s.at_ n g, at_ := s.at_ + n, rd := s.rd }
 have T6 := T5.out.grown hbt (gb_row w5 b (spC { rate := s.rate, suf := s.suf, a := lanX s.a s.at_ n g, at_ := s.at_ + n, rd := s.rd }))
 generalize w5.setRow b (spC { rate := s.rate, suf := s.suf, a := lanX s.a s.at_ n g, at_ := s.at_ + n, rd := s.rd }) = w6 at S6 T6 ⊢
 have k1 := S6.at_
 have k2 := S6.rate
 have HS6 := Lib.hid S6
 have HT6 := Lib.hid T6
 clear S6 T6 c1 c2 HS5 T5 ev
 refine region_still (by kernel_rfl) (by kernel_rfl) rfl ?_
 by_cases heq : s.at_ + n = s.rate
 ·have hei : (s.at_ : Int) + (n : Int) = (s.rate : Int) := by omega
  have HQ := Lib.hid heq
  clear heq
  iterate 9 still_step
  refine wpStill_nil ?_
  go_wp2_with (go_at_call 77; (refine (permute_w b _ O5.out _ HS6.out.drew ⟨HT6.out.off, HT6.out.rc⟩).mono ?_); rintro e w7 ⟨rfl, S7, g7⟩; have P7 := Lib.hid S7; clear S7 g7)
  obtain ⟨t, ⟨lo, hi⟩, ht, hfr⟩ := P7.out
  refine ⟨t, lo, hi, ?_, hfr⟩
  unfold absorb1
  rw [if_pos HQ.out]
  exact ht
 ·have hei : ¬ (((s.at_ + n : Nat) : Int) = (s.rate : Int)) := by omega
  have HQ := Lib.hid heq
  clear heq
  obtain ⟨an, ean⟩ : ∃ an, Hid (an = s.at_ + n) := ⟨_, Lib.hid rfl⟩
  obtain ⟨rt, ert⟩ : ∃ rt, Hid (rt = s.rate) := ⟨_, Lib.hid rfl⟩
  rw [<- ean.out, <- ert.out] at hei
  rw [<- ean.out] at k1
  rw [<- ert.out] at k2
  clear hw1 hat hrt
  iterate 9 still_step
  refine wpStill_nil ?_
  go_wp2_with fail
  obtain ⟨t, ⟨lo, hi⟩, ht, hfr⟩ := HS6.out
  refine ⟨t, lo, hi, ?_, hfr⟩
  unfold absorb1
  rw [if_neg HQ.out]
  exact ht
end
section
open Go Go.Conc Go.RowKit
theorem lit68 {T : Array Value} (h : T.size = 68) : ∃ x0 x1 x2 x3 x4 x5 x6 x7 x8 x9 x10 x11 x12 x13 x14 x15 x16 x17 x18 x19 x20 x21 x22 x23 x24 x25 x26 x27 x28 x29 x30 x31 x32 x33 x34 x35 x36 x37 x38 x39 x40 x41 x42 x43 x44 x45 x46 x47 x48 x49 x50 x51 x52 x53 x54 x55 x56 x57 x58 x59 x60 x61 x62 x63 x64 x65 x66 x67, T = #[x0, x1, x2, x3, x4, x5, x6, x7, x8, x9, x10, x11, x12, x13, x14, x15, x16, x17, x18, x19, x20, x21, x22, x23, x24, x25, x26, x27, x28, x29, x30, x31, x32, x33, x34, x35, x36, x37, x38, x39, x40, x41, x42, x43, x44, x45, x46, x47, x48, x49, x50, x51, x52, x53, x54, x55, x56, x57, x58, x59, x60, x61, x62, x63, x64, x65, x66, x67] := by
 obtain ⟨l⟩ := T
 have h : l.length = 68 := h
 rcases l with _ | ⟨x0, l⟩
 ·simp at h
 rcases l with _ | ⟨x1, l⟩
 ·simp at h
 rcases l with _ | ⟨x2, l⟩
 ·simp at h
 rcases l with _ | ⟨x3, l⟩
 ·simp at h
 rcases l with _ | ⟨x4, l⟩
 ·simp at h
 rcases l with _ | ⟨x5, l⟩
 ·simp at h
 rcases l with _ | ⟨x6, l⟩
 ·simp at h
 rcases l with _ | ⟨x7, l⟩
 ·simp at h
 rcases l with _ | ⟨x8, l⟩
 ·simp at h
 rcases l with _ | ⟨x9, l⟩
 ·simp at h
 rcases l with _ | ⟨x10, l⟩
 ·simp at h
 rcases l with _ | ⟨x11, l⟩
 ·simp at h
 rcases l with _ | ⟨x12, l⟩
 ·simp at h
 rcases l with _ | ⟨x13, l⟩
 ·simp at h
 rcases l with _ | ⟨x14, l⟩
 ·simp at h
 rcases l with _ | ⟨x15, l⟩
 ·simp at h
 rcases l with _ | ⟨x16, l⟩
 ·simp at h
 rcases l with _ | ⟨x17, l⟩
 ·simp at h
 rcases l with _ | ⟨x18, l⟩
 ·simp at h
 rcases l with _ | ⟨x19, l⟩
 ·simp at h
 rcases l with _ | ⟨x20, l⟩
 ·simp at h
 rcases l with _ | ⟨x21, l⟩
 ·simp at h
 rcases l with _ | ⟨x22, l⟩
 ·simp at h
 rcases l with _ | ⟨x23, l⟩
 ·simp at h
 rcases l with _ | ⟨x24, l⟩
 ·simp at h
 rcases l with _ | ⟨x25, l⟩
 ·simp at h
 rcases l with _ | ⟨x26, l⟩
 ·simp at h
 rcases l with _ | ⟨x27, l⟩
 ·simp at h
 rcases l with _ | ⟨x28, l⟩
 ·simp at h
 rcases l with _ | ⟨x29, l⟩
 ·simp at h
 rcases l with _ | ⟨x30, l⟩
 ·simp at h
 rcases l with _ | ⟨x31, l⟩
 ·simp at h
 rcases l with _ | ⟨x32, l⟩
 ·simp at h
 rcases l with _ | ⟨x33, l⟩
 ·simp at h
 rcases l with _ | ⟨x34, l⟩
 ·simp at h
 rcases l with _ | ⟨x35, l⟩
 ·simp at h
 rcases l with _ | ⟨x36, l⟩
 ·simp at h
 rcases l with _ | ⟨x37, l⟩
 ·simp at h
 rcases l with _ | ⟨x38, l⟩
 ·simp at h
 rcases l with _ | ⟨x39, l⟩
 ·simp at h
 rcases l with _ | ⟨x40, l⟩
 ·simp at h
 rcases l with _ | ⟨x41, l⟩
 ·simp at h
 rcases l with _ | ⟨x42, l⟩
 ·simp at h
 rcases l with _ | ⟨x43, l⟩
 ·simp at h
 rcases l with _ | ⟨x44, l⟩
 ·simp at h
 rcases l with _ | ⟨x45, l⟩
 ·simp at h
 rcases l with _ | ⟨x46, l⟩
 ·simp at h
 rcases l with _ | ⟨x47, l⟩
 ·simp at h
 rcases l with _ | ⟨x48, l⟩
 ·simp at h
 rcases l with _ | ⟨x49, l⟩
 ·simp at h
 rcases l with _ | ⟨x50, l⟩
 ·simp at h
 rcases l with _ | ⟨x51, l⟩
 ·simp at h
 rcases l with _ | ⟨x52, l⟩
 ·simp at h
 rcases l with _ | ⟨x53, l⟩
 ·simp at h
 rcases l with _ | ⟨x54, l⟩
 ·simp at h
 rcases l with _ | ⟨x55, l⟩
 ·simp at h
 rcases l with _ | ⟨x56, l⟩
 ·simp at h
 rcases l with _ | ⟨x57, l⟩
 ·simp at h
 rcases l with _ | ⟨x58, l⟩
 ·simp at h
 rcases l with _ | ⟨x59, l⟩
 ·simp at h
 rcases l with _ | ⟨x60, l⟩
 ·simp at h
 rcases l with _ | ⟨x61, l⟩
 ·simp at h
 rcases l with _ | ⟨x62, l⟩
 ·simp at h
 rcases l with _ | ⟨x63, l⟩
 ·simp at h
 rcases l with _ | ⟨x64, l⟩
 ·simp at h
 rcases l with _ | ⟨x65, l⟩
 ·simp at h
 rcases l with _ | ⟨x66, l⟩
 ·simp at h
 rcases l with _ | ⟨x67, l⟩
 ·simp at h
 rcases l with _ | ⟨y, l⟩
 ·exact ⟨x0, x1, x2, x3, x4, x5, x6, x7, x8, x9, x10, x11, x12, x13, x14, x15, x16, x17, x18, x19, x20, x21, x22, x23, x24, x25, x26, x27, x28, x29, x30, x31, x32, x33, x34, x35, x36, x37, x38, x39, x40, x41, x42, x43, x44, x45, x46, x47, x48, x49, x50, x51, x52, x53, x54, x55, x56, x57, x58, x59, x60, x61, x62, x63, x64, x65, x66, x67, rfl⟩
 ·simp at h
theorem pW6_is : pW6 = .region 6 (cO pW6) false := by kernel_rfl
theorem pW7_is : pW7 = .region 7 (cO pW7) false := by kernel_rfl
theorem lsW6 : List.range (cO pW6).size = [0, 1] := by kernel_rfl
theorem lsW7 : List.range (cO pW7).size = [0, 1] := by kernel_rfl
theorem opW6_0 : ∃ o, (cO pW6)[0]? = some o /\ o.op = .recv 252 (.tmp 29) true /\ o.dst = some 30 /\ o.guard = none := ⟨_, rfl, rfl, rfl, rfl⟩
theorem opW6_1 : ∃ o, (cO pW6)[1]? = some o /\ o.op = .extract (.tmp 30) 1 /\ o.dst = some 31 /\ o.guard = none := ⟨_, rfl, rfl, rfl, rfl⟩
theorem opW7_0 : ∃ o, (cO pW7)[0]? = some o /\ o.op = .extract (.tmp 30) 0 /\ o.dst = some 32 /\ o.guard = none := ⟨_, rfl, rfl, rfl, rfl⟩
theorem opW7_1 : ∃ o, (cO pW7)[1]? = some o /\ o.op = .assign (.tmp 32) /\ o.dst = some 7 /\ o.guard = none := ⟨_, rfl, rfl, rfl, rfl⟩
theorem run_recvU {a : Act} {o : Oper} {c : Nat} (hop : o.op = .recv 252 (.tmp 29) true) (hx : a.eval (.tmp 29) = .chan (some c)) (w : World) : (execOp a.eval o).run Tryz.prog w = .ok (.comm #[rcase c (.slice none 0 0)] true (.recv true)) w /\ (execOp a.eval o).events Tryz.prog w #[] = #[] := by
 unfold execOp
 simp only [hop, hx]
 constructor
 ·simp [go_sem, rcase]
 ·simp [go_sem]
theorem kindW : (base 105).kind ≠ .early := by intro h; cases h
def dcloseW (st : Nat) : Deferred := ⟨.builtin .close #[251] 0 #[false], #[.chan (some st)]⟩
def LU (b ib : Nat) : List Nat := [8, 9, 10, 19, 20, ib, b]
def LsU (ib : Nat) : List Nat := [8, 9, 10, 19, 20, ib]
theorem nice_mem {g : Nat} (b ib : Nat) (hg : niceG.contains g = true) : g ∈ LsU ib /\ g ∈ LU b ib := by
 have h : g ∈ niceG := by simpa using hg
 unfold niceG at h
 unfold LU LsU
 simp only [List.mem_cons, List.not_mem_nil, or_false] at h ⊢
 omega
theorem HRel.rowV {σ : BRel} {W w : World} (H : HRel σ W w) {b b' : Nat} (hb : σ b b') {c : Array Value} {e : TypeId} {fr : Nat × Nat} (hW : W.heap[b]? = some (.cells c e fr)) (hfr : fr.2 <= fr.1) (hf : ∀ v ∈ c, Fixed σ v) : RowC w b' c e :=
 ⟨H.fixed hb hW hf, fun off => H.thaw b b' off hb (by unfold World.frozen?; rw [hW]; simp; omega)⟩
theorem RowC.sp {w : World} {b : Nat} {s : Spg} {t : TypeId} (h : RowC w b (spC s) t) : Sp w b s := by
 obtain ⟨⟨fr, h1⟩, h2⟩ := h
 refine ⟨t, fr, h1, ?_⟩
 have := h2 fr.1
 unfold World.frozen? at this
 dsimp only at this
 rw [h1] at this
 simp at this
 omega
theorem Sp.rowC {w : World} {b : Nat} {s : Spg} (h : Sp w b s) : ∃ t, RowC w b (spC s) t := by
 have hc := fun i => (h.cell i).2
 obtain ⟨t, fr, h1, h2⟩ := h
 exact ⟨t, ⟨fr, h1⟩, hc⟩
structure MU (b ib off len st : Nat) (f : Nat -> Nat) (w0 : World) (S : BSet) (s : Spg) (O : BSet) (w : World) : Prop where
 ob : O b
 row : ∃ t, RowC w b (spC s) t
 tabs : TabK w
 tame : ∀ g, niceG.contains g = true -> Tame w g
 tib : Tame w ib
 inp : ∀ i, i < len -> w.cell? ⟨ib, off + i, none⟩ = some (.int .u8 (f i))
 kept : w0.grownBy w (some b)
 cover : ∀ x, x < w0.heap.size -> O x \/ S x
 stop : ∃ tm, w.heap[st]? = some (.chan 0 #[] false 0 0 tm)
structure UGeo (b ib st : Nat) (S : BSet) : Prop where
 tabs : ∀ g, niceG.contains g = true -> S g
 sib : S ib
 bn : b ∉ LsU ib
 sst : S st
 stn : st ∉ LU b ib
section
variable {b ib off len c st : Nat} {f : Nat -> Nat} {w0 : World} {S : BSet} {s : Spg}
theorem MU.stab (ge : UGeo b ib st S) : Stab S (MU b ib off len st f w0 S s) := by
 intro O w w1 h R
 obtain ⟨t, ht⟩ := h.row
 have hs : ∀ g, niceG.contains g = true -> w1.heap[g]? = w.heap[g]? := fun g hg => R.keep g (.inr (ge.tabs g hg))
 refine ⟨h.ob, ⟨t, ht.of_eq (R.keep b (.inl h.ob))⟩, ⟨fun j hj => by rw [heap_cell (hs _ rfl)]; exact h.tabs.off j hj, fun j hj => by rw [heap_cell (hs _ rfl)]; exact h.tabs.rc j hj⟩, fun g hg => ?_, ?_, fun i hi => by rw [heap_cell (R.keep ib (.inr ge.sib))]; exact h.inp i hi, ?_, h.cover, by rw [R.keep st (.inr ge.sst)]; exact h.stop⟩
 ·obtain ⟨a, e, fr, hc⟩ := h.tame g hg
  exact ⟨a, e, fr, by rw [hs g hg]; exact hc⟩
 ·obtain ⟨a, e, fr, hc⟩ := h.tib
  exact ⟨a, e, fr, by rw [R.keep ib (.inr ge.sib)]; exact hc⟩
 ·exact ⟨R.os.trans h.kept.os, R.tape.trans h.kept.tape, R.output.trans h.kept.output, Nat.le_trans h.kept.size R.size, fun x hx hn => (R.keep x (h.cover x hx)).trans (h.kept.block x hx hn)⟩
theorem MU.meet {O : BSet} {w : World} (h : MU b ib off len st f w0 S s O w) (ge : UGeo b ib st S) : Meet S O (LU b ib) (LsU ib) w where
 tabs := fun g hg => (nice_mem b ib hg).2
 tame := fun x hx => by
  unfold LU at hx
  simp only [List.mem_cons, List.not_mem_nil, or_false] at hx
  rcases hx with rfl | rfl | rfl | rfl | rfl | rfl | rfl
  ·exact h.tame _ rfl
  ·exact h.tame _ rfl
  ·exact h.tame _ rfl
  ·exact h.tame _ rfl
  ·exact h.tame _ rfl
  ·exact h.tib
  ·obtain ⟨t, ⟨fr, ht⟩, _⟩ := h.row
   exact ⟨_, t, fr, ht⟩
 own := fun x hx => by
  have hx2 := hx
  unfold LU at hx
  simp only [List.mem_cons, List.not_mem_nil, or_false] at hx
  by_cases hb : x = b
  ·exact .inl (hb ▸ h.ob)
  ·have hl : x ∈ LsU ib := by unfold LsU; simp only [List.mem_cons, List.not_mem_nil, or_false]; omega
   refine .inr ⟨?_, hl⟩
   rcases hx with rfl | rfl | rfl | rfl | rfl | rfl | rfl
   ·exact ge.tabs _ rfl
   ·exact ge.tabs _ rfl
   ·exact ge.tabs _ rfl
   ·exact ge.tabs _ rfl
   ·exact ge.tabs _ rfl
   ·exact ge.sib
   ·exact absurd rfl hb
 thaw := fun x hx hn off => by
  have hb : x = b := by
   unfold LU at hx
   unfold LsU at hn
   simp only [List.mem_cons, List.not_mem_nil, or_false] at hx hn
   omega
  subst hb
  exact h.row.choose_spec.2 off
structure UT (b st c : Nat) (sl : Value) (T : Array Value) : Prop where
 size : T.size = 68
 s0 : T[0]? = some (.pointer (some ⟨b, 0, none⟩))
 s1 : T[1]? = some sl
 s6 : T[6]? = some (.chan (some st))
 s29 : T[29]? = some (.chan (some c))
theorem UT.set {sl : Value} {T : Array Value} (h : UT b st c sl T) {i : Nat} (v : Value) (h1 : i ≠ 0) (h2 : i ≠ 1) (h3 : i ≠ 6) (h4 : i ≠ 29) : UT b st c sl (T.setIfInBounds i v) :=
 ⟨by simpa using h.size, by rw [Array.getElem?_setIfInBounds_ne h1]; exact h.s0, by rw [Array.getElem?_setIfInBounds_ne h2]; exact h.s1, by rw [Array.getElem?_setIfInBounds_ne h3]; exact h.s6, by rw [Array.getElem?_setIfInBounds_ne h4]; exact h.s29⟩
theorem spC_vrel (ρ : BRel) (s : Spg) : ∀ v ∈ spC s, VRel ρ v v := by
 intro v hv
 have hv : v ∈ spL s := by simpa [spC] using hv
 unfold spL at hv
 simp only [List.mem_cons, List.mem_append, List.not_mem_nil, or_false] at hv
 rcases hv with rfl | rfl | hv | rfl | rfl
 ·exact .int _ _
 ·exact .int _ _
 ·exact vrel_vals ρ 25 _ .u64 v (by simpa using hv)
 ·exact .int _ _
 ·exact .bool _
theorem spC_fixed (σ : BRel) (s : Spg) : ∀ v ∈ spC s, Fixed σ v := by
 intro v hv
 have hv : v ∈ spL s := by simpa [spC] using hv
 unfold spL at hv
 simp only [List.mem_cons, List.mem_append, List.not_mem_nil, or_false] at hv
 rcases hv with rfl | rfl | hv | rfl | rfl
 ·exact fixed_int _ _ _
 ·exact fixed_int _ _ _
 ·obtain ⟨i, hi, e⟩ := Array.mem_iff_getElem.1 (show v ∈ vals .u64 25 (fun j => (s.a j : Int)) from by simpa using hv)
  rw [<- e, vals_get]
  exact fixed_int _ _ _
 ·exact fixed_int _ _ _
 ·exact fixed_bool _ _
theorem body_stepU {X : BSet -> Goroutine -> World -> Prop} (hXc : Closed Tryz.prog true S X) (ge : UGeo b ib st S) (hbt : b ≠ 8 /\ b ≠ 9) (ok : s.Ok) {p n cp cap : Nat} (hn : n <= cp) (hat : s.at_ + n <= s.rate) (hp : p + n <= len) (hf : ∀ i, i < len -> f i < 256)
  {T' : Array Value} (ht : UT b st c (.slice (some ⟨ib, off, none⟩) len cap) T') (h7 : T'[7]? = some (.slice (some ⟨ib, off + p, none⟩) n cp)) {k : List Item} {cs : List Frame}
  (h : ∀ T' : Array Value, UT b st c (.slice (some ⟨ib, off, none⟩) len cap) T' -> All X (MU b ib off len st f w0 S (absorb1 s n (fun i => f (p + i)))) (G ((base 105).at ⟨T', [dcloseW st]⟩ k) cs)) :
  All X (MU b ib off len st f w0 S s) (G ((base 105).at ⟨T', [dcloseW st]⟩ (.code DWr :: k)) cs) := by
 intro O w hi
 have mib : ib ∈ LU b ib := by unfold LU; simp
 have mb : b ∈ LU b ib := by unfold LU; simp
 have mb2 := ge.bn
 obtain ⟨tb, hrow⟩ := hi.row
 refine code_piece progOk hXc (LU b ib) (LsU ib) (fun i => i = 0 \/ i = 1 \/ i = 6 \/ i = 7 \/ i = 29) (hi.meet ge) ?_ ⟨fun h => by (cases h), fun _ => rfl⟩ (by kernel_rfl)
  (fun TE H => TE.size = 68 /\ TE[0]? = some (.pointer (some ⟨b, 0, none⟩)) /\ TE[1]? = some (.slice (some ⟨ib, off, none⟩) len cap) /\ TE[6]? = some (.chan (some st)) /\ TE[29]? = some (.chan (some c)) /\ ∃ t fr, H[b]? = some (.cells (spC (absorb1 s n (fun i => f (p + i)))) t fr) /\ fr.2 <= fr.1)
  (fun T W hT hkp hW => ?_) ?_
 ·rintro i v (rfl | rfl | rfl | rfl | rfl) hv
  ·rw [ht.s0] at hv; rw [<- Option.some.inj hv]; exact vrel_ptr mb
  ·rw [ht.s1] at hv; rw [<- Option.some.inj hv]; exact vrel_slice mib _ _
  ·rw [ht.s6] at hv; rw [<- Option.some.inj hv]; exact .chan st
  ·rw [h7] at hv; rw [<- Option.some.inj hv]; exact vrel_slice mib _ _
  ·rw [ht.s29] at hv; rw [<- Option.some.inj hv]; exact .chan c
 ·obtain ⟨x0, x1, x2, x3, x4, x5, x6, x7, x8, x9, x10, x11, x12, x13, x14, x15, x16, x17, x18, x19, x20, x21, x22, x23, x24, x25, x26, x27, x28, x29, x30, x31, x32, x33, x34, x35, x36, x37, x38, x39, x40, x41, x42, x43, x44, x45, x46, x47, x48, x49, x50, x51, x52, x53, x54, x55, x56, x57, x58, x59, x60, x61, x62, x63, x64, x65, x66, x67, rfl⟩ := lit68 (hT.trans ht.size)
  obtain rfl : x0 = _ := Option.some.inj ((hkp 0 (by simp)).trans ht.s0)
  obtain rfl : x1 = _ := Option.some.inj ((hkp 1 (by simp)).trans ht.s1)
  obtain rfl : x6 = _ := Option.some.inj ((hkp 6 (by simp)).trans ht.s6)
  obtain rfl : x7 = _ := Option.some.inj ((hkp 7 (by simp)).trans h7)
  obtain rfl : x29 = _ := Option.some.inj ((hkp 29 (by simp)).trans ht.s29)
  have hc : ∀ (a : Addr) (k : IntKind) (m : Int), w.cell? a = some (.int k m) -> W.cell? a = some (.int k m) := fun a k m hv => by
   rw [<- ice_cell (LU b ib) (LsU ib) hv (.int k m)]
   exact heap_cell (by rw [hW])
  have hsp : Sp W b s := by
   obtain ⟨fr, h1⟩ := hrow.1
   exact ⟨tb, (0, 0), by rw [hW]; exact ice_row _ _ mb mb2 h1 (spC_vrel _ _), Nat.le_refl _⟩
  exact body_U _ x2 x3 x4 x5 _ x8 x9 x10 x11 x12 x13 x14 x15 x16 x17 x18 x19 x20 x21 x22 x23 x24 x25 x26 x27 x28 _ x30 x31 x32 x33 x34 x35 x36 x37 x38 x39 x40 x41 x42 x43 x44 x45 x46 x47 x48 x49 x50 x51 x52 x53 x54 x55 x56 x57 x58 x59 x60 x61 x62 x63 x64 x65 x66 x67 b s ok ib (off + p) n cp hn hat (fun i => f (p + i)) (fun i hi => hf _ (by omega)) W hsp ⟨fun j hj => hc _ _ _ (hi.tabs.off j hj), fun j hj => hc _ _ _ (hi.tabs.rc j hj)⟩ hbt (fun i hi2 => by rw [Nat.add_assoc]; exact hc _ _ _ (hi.inp _ (by omega)))
 ·rintro σ O1 TE TE' WE wE p' hT hH _ ⟨r1, r2, r3, r4, r5, tv, frv, r6, r7⟩
  have M := hi.meet ge
  have hs : ∀ x, x ∈ LsU ib -> wE.heap[x]? = w.heap[x]? := fun x hx => path_stiff M p' (by unfold LsU at hx; unfold LU; simp only [List.mem_cons, List.not_mem_nil, or_false] at hx ⊢; omega) hx
  have hg : ∀ g, niceG.contains g = true -> wE.heap[g]? = w.heap[g]? := fun g hg => hs g (nice_mem b ib hg).1
  refine h TE' ⟨hT.1.symm.trans r1, hT.fixed r2 (fixed_ptr hH.fine (path_id p' mb)), hT.fixed r3 (fixed_slice hH.fine (path_id p' mib) _ _), hT.fixed r4 (fixed_chan _ _), hT.fixed r5 (fixed_chan _ _)⟩ O1 wE
   ⟨p'.own _ hi.ob, ⟨tv, hH.rowV (path_id p' mb) r6 r7 (spC_fixed σ _)⟩, ⟨fun j hj => by rw [heap_cell (hg _ rfl)]; exact hi.tabs.off j hj, fun j hj => by rw [heap_cell (hg _ rfl)]; exact hi.tabs.rc j hj⟩,
    fun g hn => by obtain ⟨a, e, fr, hc⟩ := hi.tame g hn; exact ⟨a, e, fr, by rw [hg g hn]; exact hc⟩, ?_, fun i hi2 => by rw [heap_cell (hs ib (by unfold LsU; simp))]; exact hi.inp i hi2, ?_, fun x hx => (hi.cover x hx).imp (p'.own x) id, by obtain ⟨tm, hx⟩ := hi.stop; exact ⟨tm, by rw [path_out p' ge.stn (Array.getElem?_eq_some_iff.1 hx).1 (.inr ge.sst)]; exact hx⟩⟩
  ·obtain ⟨a, e, fr, hc⟩ := hi.tib
   exact ⟨a, e, fr, by rw [hs ib (by unfold LsU; simp)]; exact hc⟩
  ·refine ⟨p'.os.trans hi.kept.os, p'.tape.trans hi.kept.tape, p'.output.trans hi.kept.output, Nat.le_trans hi.kept.size p'.size, fun x hx hne => ?_⟩
   refine Eq.trans ?_ (hi.kept.block x hx hne)
   by_cases hL : x ∈ LsU ib
   ·exact hs x hL
   ·refine path_out p' (fun hm => ?_) (Nat.lt_of_lt_of_le hx hi.kept.size) (hi.cover x hx)
    have hxb : x ≠ b := fun e => hne (by rw [e])
    unfold LU at hm
    unfold LsU at hL
    simp only [List.mem_cons, List.not_mem_nil, or_false] at hm hL
    omega
end
end
section
open Go Go.Conc Go.RowKit
def sU (s : Spg) (len cap off : Nat) (f : Nat -> Nat) : Nat -> Spg
 | 0 => s
 | j + 1 => absorb1 (sU s len cap off f j) (nU off len cap (s.rate - s.at_) s.rate j) (fun i => f (len - lU off len cap (s.rate - s.at_) s.rate j + i))
theorem absorb1_ok {s : Spg} (ok : s.Ok) {n : Nat} (h : s.at_ + n <= s.rate) {g : Nat -> Nat} (hg : ∀ i, i < n -> g i < 256) : (absorb1 s n g).Ok /\ (absorb1 s n g).rate = s.rate /\ (absorb1 s n g).suf = s.suf /\ (absorb1 s n g).rd = s.rd := by
 have hl : ∀ j, j < 25 -> lanX s.a s.at_ n g j < 18446744073709551616 := fun j _ => (lanX_is _ _ _ _ hg j).2
 unfold absorb1
 split
 ·exact ⟨⟨fun j hj => permF_lt _ hl j hj, ok.pos, ok.rate, Nat.zero_le _, ok.suf⟩, rfl, rfl, rfl⟩
 ·exact ⟨⟨hl, ok.pos, ok.rate, h, ok.suf⟩, rfl, rfl, rfl⟩
section
variable {s : Spg} {off len cap : Nat} {f : Nat -> Nat}
theorem lU_anti (off len cap fst rt j : Nat) : lU off len cap fst rt (j + 1) <= lU off len cap fst rt j := by rw [lU_succ]; omega
theorem lU_len (off len cap fst rt : Nat) : ∀ j, lU off len cap fst rt j <= len
 | 0 => Nat.le_refl _
 | j + 1 => Nat.le_trans (lU_anti _ _ _ _ _ _) (lU_len off len cap fst rt j)
theorem posU {fst rt : Nat} (hcap : len <= cap) : ∀ j, 0 < lU off len cap fst rt j -> oU off len cap fst rt j = off + (len - lU off len cap fst rt j)
 | 0, _ => by
  show off = off + (len - len)
  omega
 | j + 1, h => by
  have h1 := lU_anti off len cap fst rt j
  have ih : oU off len cap fst rt j = off + (len - lU off len cap fst rt j) := posU hcap j (by omega)
  have h2 := lU_le off len cap fst rt hcap j
  have h3 := lU_len off len cap fst rt j
  rw [lU_succ] at h ⊢
  rw [oU_succ, if_neg (by omega), ih]
  omega
theorem sU_inv (ok : s.Ok) (hcap : len <= cap) (hf : ∀ i, i < len -> f i < 256) : ∀ j, (sU s len cap off f j).Ok /\ (sU s len cap off f j).rate = s.rate /\ (sU s len cap off f j).suf = s.suf /\ (sU s len cap off f j).rd = s.rd /\ (0 < lU off len cap (s.rate - s.at_) s.rate j -> (sU s len cap off f j).at_ + nU off len cap (s.rate - s.at_) s.rate j <= s.rate /\ (sU s len cap off f j).at_ = if j = 0 then s.at_ else 0)
 | 0 => ⟨ok, rfl, rfl, rfl, fun _ => ⟨by
   have h1 : nU off len cap (s.rate - s.at_) s.rate 0 <= s.rate - s.at_ := Nat.min_le_left _ _
   have := ok.at_
   show s.at_ + _ <= _
   omega, rfl⟩⟩
 | j + 1 => by
  obtain ⟨h1, h2, h2b, h2c, h3⟩ := sU_inv ok hcap hf j
  have e : sU s len cap off f (j + 1) = absorb1 (sU s len cap off f j) (nU off len cap (s.rate - s.at_) s.rate j) (fun i => f (len - lU off len cap (s.rate - s.at_) s.rate j + i)) := rfl
  have hn : nU off len cap (s.rate - s.at_) s.rate j <= lU off len cap (s.rate - s.at_) s.rate j := Nat.min_le_right _ _
  have hlen := lU_len off len cap (s.rate - s.at_) s.rate j
  by_cases hl : 0 < lU off len cap (s.rate - s.at_) s.rate j
  ·obtain ⟨h4, h5⟩ := h3 hl
   obtain ⟨g1, g2, g2b, g2c⟩ := absorb1_ok h1 (by rw [h2]; exact h4) (g := fun i => f (len - lU off len cap (s.rate - s.at_) s.rate j + i)) (fun i hi => hf _ (by omega))
   rw [e]
   refine ⟨g1, g2.trans h2, g2b.trans h2b, g2c.trans h2c, fun hl2 => ?_⟩
   rw [lU_succ] at hl2
   have hroom : nU off len cap (s.rate - s.at_) s.rate j = roomU (s.rate - s.at_) s.rate j := by unfold nU at hl2 ⊢; omega
   have hat := ok.at_
   have hz : (absorb1 (sU s len cap off f j) (nU off len cap (s.rate - s.at_) s.rate j) (fun i => f (len - lU off len cap (s.rate - s.at_) s.rate j + i))).at_ = 0 := by
    unfold absorb1
    rw [if_pos ?_]
    rw [h5, hroom, h2]
    unfold roomU
    split <;> omega
   rw [hz, if_neg (by omega)]
   refine ⟨?_, rfl⟩
   have : nU off len cap (s.rate - s.at_) s.rate (j + 1) <= roomU (s.rate - s.at_) s.rate (j + 1) := Nat.min_le_left _ _
   unfold roomU at this
   rw [if_neg (by omega)] at this
   omega
  ·have hz : nU off len cap (s.rate - s.at_) s.rate j = 0 := by omega
   have hat := h1.at_
   obtain ⟨g1, g2, g2b, g2c⟩ := absorb1_ok h1 (n := 0) (by omega) (g := fun i => f (len - lU off len cap (s.rate - s.at_) s.rate j + i)) (fun i hi => by omega)
   rw [e, hz]
   refine ⟨g1, g2.trans h2, g2b.trans h2b, g2c.trans h2c, fun hl2 => ?_⟩
   rw [lU_succ] at hl2
   omega
end
section
variable {b ib off len cap c st n : Nat} {f : Nat -> Nat} {w0 : World} {S : BSet} {s : Spg} {a0 : Option Addr} {Post : Value -> World -> Prop}
theorem receiver_U (ge : UGeo b ib st S) (hbt : b ≠ 8 /\ b ≠ 9) (ok : s.Ok) (hcap : len <= cap) (hf : ∀ i, i < len -> f i < 256) (h0 : 0 < len -> a0 = some ⟨ib, off, none⟩) (hn1 : ∀ j, j < n -> 0 < lU off len cap (s.rate - s.at_) s.rate j) {cs : List Frame}
  (hEnd : ∀ O w (T' : Array Value), MU b ib off len st f w0 S (sU s len cap off f n) O w -> UT b st c (.slice a0 len cap) T' -> RunsOn Tryz.prog Post (G ((base 105).at ⟨T', [dcloseW st]⟩ [.code (.seq pW12 .ret)]) cs) w) :
  ∀ (r j : Nat) (T' : Array Value), j + r = n -> UT b st c (.slice a0 len cap) T' ->
   All (PlanM Tryz.prog S c n (.slice none 0 0) (valU ib off len cap (s.rate - s.at_) s.rate) (fun _ g w => RunsOn Tryz.prog Post g w) j) (MU b ib off len st f w0 S (sU s len cap off f j)) (G ((base 105).at ⟨T', [dcloseW st]⟩ [.code LWr, .inLoop LWr, .inBlock 0, .code (.seq pW12 .ret)]) cs) := by
 intro r
 obtain ⟨o1, a1, a2, a3, a4⟩ := opW6_0
 obtain ⟨o2, b1, b2, b3, b4⟩ := opW6_1
 obtain ⟨o3, c1, c2, c3, c4⟩ := opW7_0
 obtain ⟨o4, d1, d2, d3, d4⟩ := opW7_1
 induction r with
 | zero =>
  intro j T' hj ht
  have hX := PlanM.closed (P := Tryz.prog) (S := S) (c := c) (n := n) (z := .slice none 0 0) (vals := valU ib off len cap (s.rate - s.at_) s.rate) (K := fun _ g w => RunsOn Tryz.prog Post g w) j
  have hst := MU.stab (off := off) (len := len) (f := f) (w0 := w0) (s := sU s len cap off f j) ge
  refine All.ctl hX hst (fun w => step_code LWr_is) (All.ctl hX hst (fun w => step_reg pW6_is lsW6) ?_)
  intro O w hI
  have hrv := fun w1 : World => run_recvU (a := ⟨T', [dcloseW st]⟩) a2 (eval_tmp ht.s29) w1
  refine .recv rfl (fun w1 _ => ?_) (fun h => absurd h (by omega)) (fun _ w1 R => ?_)
  ·have := stepG_comm (P := Tryz.prog) (main := true) (b := base 105) (rest := [1]) (k := [.code (.seq (.cond (.tmp 31) .skip (.exit 0)) (.block 1 BWr)), .inLoop LWr, .inBlock 0, .code (.seq pW12 .ret)]) (cs := cs) a1 (wanted_none a4 _) kindW (hrv w1).1
   refine Eq.trans this ?_
   unfold listed
   rw [(hrv w1).2, seen_none]
  ·rw [served_at _ a1, a3]
   have ht2 := ht.set (i := 30) (.tuple #[.slice none 0 0, .bool false]) (by decide) (by decide) (by decide) (by decide)
   have e30 : (T'.setIfInBounds 30 (.tuple #[.slice none 0 0, .bool false]))[30]? = some (.tuple #[.slice none 0 0, .bool false]) := Array.getElem?_setIfInBounds_self_of_lt (by rw [ht.size]; decide)
   show RunsOn Tryz.prog Post (G ((base 105).at ⟨T'.setIfInBounds 30 (.tuple #[.slice none 0 0, .bool false]), [dcloseW st]⟩ _) cs) w1
   generalize T'.setIfInBounds 30 (.tuple #[.slice none 0 0, .bool false]) = T2 at ht2 e30
   have hre := fun w1 : World => run_extract (P := Tryz.prog) (a := ⟨T2, [dcloseW st]⟩) (v := .bool false) b2 (eval_tmp e30) rfl w1
   refine run_val (a := ⟨T2, [dcloseW st]⟩) (.bool false) b1 (wanted_none b4 _) kindW (fun d => (hre _).1) (fun d => (hre _).2) ⟨Nat.le_refl _, rfl, rfl, rfl⟩ ?_
   rw [b3]
   have ht3 := ht2.set (i := 31) (.bool false) (by decide) (by decide) (by decide) (by decide)
   have e31 : (T2.setIfInBounds 31 (.bool false))[31]? = some (.bool false) := Array.getElem?_setIfInBounds_self_of_lt (by rw [ht2.size]; decide)
   show RunsOn Tryz.prog Post (G ((base 105).at ⟨T2.setIfInBounds 31 (.bool false), [dcloseW st]⟩ _) cs) w1
   generalize T2.setIfInBounds 31 (.bool false) = T3 at ht3 e31
   refine run_ctl (fun w => stepG_region_end) (run_ctl (fun w => stepG_seq) (run_ctl (fun w => stepG_cond (eval_tmp e31)) ?_))
   rw [if_neg (by decide)]
   refine run_ctl (fun w => stepG_exit (k' := [.code (.seq pW12 .ret)]) (by simp [exitTo])) ?_
   have hin : j = n := by omega
   subst hin
   exact hEnd O w1 T3 (hst O w w1 hI R) ht3
 | succ r ih =>
  intro j T' hj ht
  have hX := PlanM.closed (P := Tryz.prog) (S := S) (c := c) (n := n) (z := .slice none 0 0) (vals := valU ib off len cap (s.rate - s.at_) s.rate) (K := fun _ g w => RunsOn Tryz.prog Post g w) j
  have hX2 := PlanM.closed (P := Tryz.prog) (S := S) (c := c) (n := n) (z := .slice none 0 0) (vals := valU ib off len cap (s.rate - s.at_) s.rate) (K := fun _ g w => RunsOn Tryz.prog Post g w) (j + 1)
  have hst := MU.stab (off := off) (len := len) (f := f) (w0 := w0) (s := sU s len cap off f j) ge
  have hst2 := MU.stab (off := off) (len := len) (f := f) (w0 := w0) (s := sU s len cap off f (j + 1)) ge
  have hl := hn1 j (by omega)
  have hlen := lU_len off len cap (s.rate - s.at_) s.rate j
  refine All.ctl hX hst (fun w => step_code LWr_is) (All.ctl hX hst (fun w => step_reg pW6_is lsW6) ?_)
  intro O w hI
  have hrv := fun w1 : World => run_recvU (a := ⟨T', [dcloseW st]⟩) a2 (eval_tmp ht.s29) w1
  refine .recv rfl (fun w1 _ => ?_) (fun _ => ?_) (fun h => absurd h (by omega))
  ·have := stepG_comm (P := Tryz.prog) (main := true) (b := base 105) (rest := [1]) (k := [.code (.seq (.cond (.tmp 31) .skip (.exit 0)) (.block 1 BWr)), .inLoop LWr, .inBlock 0, .code (.seq pW12 .ret)]) (cs := cs) a1 (wanted_none a4 _) kindW (hrv w1).1
   refine Eq.trans this ?_
   unfold listed
   rw [(hrv w1).2, seen_none]
  ·rw [served_at _ a1, a3]
   obtain ⟨v, hv⟩ : ∃ v, v = valU ib off len cap (s.rate - s.at_) s.rate j := ⟨_, rfl⟩
   rw [<- hv]
   have ht2 := ht.set (i := 30) (.tuple #[v, .bool true]) (by decide) (by decide) (by decide) (by decide)
   have e30 : (T'.setIfInBounds 30 (.tuple #[v, .bool true]))[30]? = some (.tuple #[v, .bool true]) := Array.getElem?_setIfInBounds_self_of_lt (by rw [ht.size]; decide)
   show PlanM Tryz.prog S c n (.slice none 0 0) (valU ib off len cap (s.rate - s.at_) s.rate) (fun _ g w => RunsOn Tryz.prog Post g w) (j + 1) O (G ((base 105).at ⟨T'.setIfInBounds 30 (.tuple #[v, .bool true]), [dcloseW st]⟩ _) cs) w
   generalize T'.setIfInBounds 30 (.tuple #[v, .bool true]) = T2 at ht2 e30
   have hre := fun w1 : World => run_extract (P := Tryz.prog) (a := ⟨T2, [dcloseW st]⟩) (v := .bool true) b2 (eval_tmp e30) rfl w1
   refine All.val hX2 hst (a := ⟨T2, [dcloseW st]⟩) (.bool true) b1 (wanted_none b4 _) kindW (fun w => (hre w).1) (fun w => (hre w).2) ?_ O w hI
   rw [b3]
   have ht3 := ht2.set (i := 31) (.bool true) (by decide) (by decide) (by decide) (by decide)
   have e31 : (T2.setIfInBounds 31 (.bool true))[31]? = some (.bool true) := Array.getElem?_setIfInBounds_self_of_lt (by rw [ht2.size]; decide)
   have e30' : (T2.setIfInBounds 31 (.bool true))[30]? = some (.tuple #[v, .bool true]) := by rw [Array.getElem?_setIfInBounds_ne (by decide)]; exact e30
   show All _ _ (G ((base 105).at ⟨T2.setIfInBounds 31 (.bool true), [dcloseW st]⟩ _) cs)
   generalize T2.setIfInBounds 31 (.bool true) = T3 at ht3 e31 e30'
   refine All.ctl hX2 hst (fun w => stepG_region_end) (All.ctl hX2 hst (fun w => stepG_seq) (All.ctl hX2 hst (fun w => stepG_cond (eval_tmp e31)) ?_))
   rw [if_pos rfl]
   refine All.ctl hX2 hst (fun w => stepG_skip) (All.ctl hX2 hst (fun w => stepG_block) (All.ctl hX2 hst (fun w => step_code BWr_is) (All.ctl hX2 hst (fun w => step_reg pW7_is lsW7) ?_)))
   have hre2 := fun w1 : World => run_extract (P := Tryz.prog) (a := ⟨T3, [dcloseW st]⟩) (v := v) c2 (eval_tmp e30') rfl w1
   refine All.val hX2 hst (a := ⟨T3, [dcloseW st]⟩) v c1 (wanted_none c4 _) kindW (fun w => (hre2 w).1) (fun w => (hre2 w).2) ?_
   rw [c3]
   have ht4 := ht3.set (i := 32) v (by decide) (by decide) (by decide) (by decide)
   have e32 : (T3.setIfInBounds 32 v)[32]? = some v := Array.getElem?_setIfInBounds_self_of_lt (by rw [ht3.size]; decide)
   show All _ _ (G ((base 105).at ⟨T3.setIfInBounds 32 v, [dcloseW st]⟩ _) cs)
   generalize T3.setIfInBounds 32 v = T4 at ht4 e32
   have hre3 := fun w1 : World => run_assign (P := Tryz.prog) (a := ⟨T4, [dcloseW st]⟩) d2 w1
   refine All.val hX2 hst (a := ⟨T4, [dcloseW st]⟩) v d1 (wanted_none d4 _) kindW (fun w => by rw [(hre3 w).1, eval_tmp e32]) (fun w => (hre3 w).2) ?_
   rw [d3]
   have ht5 := ht4.set (i := 7) v (by decide) (by decide) (by decide) (by decide)
   have e7 : (T4.setIfInBounds 7 v)[7]? = some v := Array.getElem?_setIfInBounds_self_of_lt (by rw [ht4.size]; decide)
   show All _ _ (G ((base 105).at ⟨T4.setIfInBounds 7 v, [dcloseW st]⟩ _) cs)
   generalize T4.setIfInBounds 7 v = T5 at ht5 e7
   refine All.ctl hX2 hst (fun w => stepG_region_end) ?_
   obtain ⟨k1, k2, _, _, k3⟩ := sU_inv (off := off) (f := f) ok hcap hf j
   have hnl : nU off len cap (s.rate - s.at_) s.rate j <= lU off len cap (s.rate - s.at_) s.rate j := Nat.min_le_right _ _
   have hv2 : v = .slice (some ⟨ib, off + (len - lU off len cap (s.rate - s.at_) s.rate j), none⟩) (nU off len cap (s.rate - s.at_) s.rate j) (cU off len cap (s.rate - s.at_) s.rate j) := by
    rw [hv]
    unfold valU
    rw [posU hcap j hl]
   rw [hv2] at e7
   have ht6 := ht5
   rw [h0 (by omega)] at ht6
   refine body_stepU hX2 ge hbt k1 (Nat.le_trans hnl (lU_le _ _ _ _ _ hcap j)) (by rw [k2]; exact (k3 hl).1) (by omega) hf ht6 e7 fun T' ht' => ?_
   rw [<- h0 (by omega)] at ht'
   exact All.ctl hX2 hst2 (fun w => stepG_inBlock) (All.ctl hX2 hst2 (fun w => stepG_inLoop) (ih (j + 1) T' (by omega) ht'))
end
end
end Go.Proofs.YtdobjciaikofdaaGreatDoor
