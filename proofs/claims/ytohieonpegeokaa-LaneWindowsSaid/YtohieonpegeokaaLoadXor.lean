/- load.Xor: bytes exclusive-or others. -/
import Derived.Test.YtohieonpegeokaaOwnSet
import Derived.Test.YtohieonpegeokaaBase
namespace Go.Proofs.Ytohieonpegeokaa
open Go.RowKit Go.Shelf

set_option maxRecDepth 100000 in
theorem lxor_w (a b : Option Addr) (la ca lb cb : Nat) (f g : Nat → Nat) (w : World) (hla : la ≤ 100000) (hca : la ≤ ca) (hlb : lb ≤ 100000) (hra : reads w a la .u8 (fun j => (f j : Int))) (hrb : reads w b lb .u8 (fun j => (g j : Int))) (hf : ∀ j, j < la → f j < 256) (hg : ∀ j, j < lb → g j < 256) :
    Calls Try.prog 52 #[.slice a la ca, .slice b lb cb] w fun e w' => ∃ v, e = .returned v ∧ owns w' w.heap.size 5 .u8 v (min la lb) (fun j => ((f j ^^^ g j : Nat) : Int)) ∧ Below w.heap.size w w' := by
  have HA := Lib.hid hra
  have HBr := Lib.hid hrb
  have HF := Lib.hid hf
  have HG := Lib.hid hg
  clear hra hrb hf hg
  go_enter Try.func52, Try.ntmps52
  obtain ⟨n, hn⟩ : ∃ n, Hid (n = min la lb) := ⟨_, Lib.hid rfl⟩
  have hna : n ≤ la := by rw [hn.out]; omega
  have hnb : n ≤ lb := by rw [hn.out]; omega
  have e0 : Hid ((min (la : Int) (lb : Int)).toNat = n) := Lib.hid (by rw [hn.out]; omega)
  have HRn : Hid (reads w a (min (la : Int) (lb : Int)).toNat .u8 (fun j => (f j : Int))) := Lib.hid (by
    rw [e0.out]
    intro h
    obtain ⟨b, off, e, hc⟩ := HA.out (by omega)
    exact ⟨b, off, e, fun j hj => hc j (by omega)⟩)
  go_wp2_with (go_at_call 73; refine (clone8_w a _ ca (fun j => (f j : Int)) w (by omega) HRn.out).mono ?_; rintro e w1 ⟨v, rfl, ho, hb⟩; obtain ⟨a1, c1, rfl, hc1, hcm, hrd⟩ := owns_reads ho; clear hrd; simp only [e0.out] at ho hc1 ⊢)
  have HO1 := Lib.hid ho
  have HB1 := Lib.hid hb
  clear ho hb
  go_loopw [17] (fun i wr => ∃ k : Nat, k ≤ n ∧ i = .int .i64 k ∧ Hid (owns wr w.heap.size 5 .u8 (.slice a1 n c1) n (fun j => if j < k then ((f j ^^^ g j : Nat) : Int) else (f j : Int))) ∧ Hid (Below w.heap.size w wr)) (fun i _ => n - (intOf i).toNat)
  case atStart => exact ⟨0, by omega, rfl, Lib.hid (owns_ext (fun j _ => by simp) HO1.out), HB1⟩
  case round =>
    clear HO1 HB1
    obtain ⟨k, hk, rfl, HO, HB⟩ := hrel
    by_cases hlt : k < n
    · obtain ⟨gk, c', e, hcc, hgb, hgl, hcells⟩ := owns_at HO.out (by omega)
      cases e
      obtain ⟨b2, o2, rfl, hc2⟩ := reads_below (Nat.le_refl _) HB.out HBr.out (by omega)
      have hcell1 := (hcells k hlt).1
      rw [if_neg (Nat.lt_irrefl k)] at hcell1
      have hfr1 := (hcells k hlt).2
      have hcell2 := hc2 k (by omega)
      have hfk := HF.out k (by omega)
      have hgk := HG.out k (by omega)
      have HX := Lib.hid (Go.u8_xor_nat (f k) (g k) hfk hgk)
      clear hcells hc2
      go_wp2_with fail
      go_region
      go_wp2
      go_roundw
      case rel =>
        refine ⟨k + 1, by omega, by go_num, Lib.hid ?_, Lib.hid ?_⟩
        · refine owns_ext (fun j hj => ?_) (owns_setCell HO.out k _)
          by_cases h : j = k
          · subst h
            rw [if_pos rfl, if_pos (Nat.lt_succ_self _)]
            exact HX.out
          · rw [if_neg h]
            by_cases h2 : j < k
            · rw [if_pos h2, if_pos (by omega)]
            · rw [if_neg h2, if_neg (by omega)]
        · refine (HB.out.trans (below_own (g := gk) ?_ hgb HB.out.size)).drew
          rw [Sort.setCell_eq]
          exact grownBy_mapBlock _ _ _
      case measure => simp [intOf]; omega
    · obtain rfl : n = k := by omega
      go_wp2
      go_ret
      exact ⟨_, rfl, by rw [← hn.out]; exact owns_ext (fun j hj => by rw [if_pos hj]) HO.out, HB.out⟩
end Go.Proofs.Ytohieonpegeokaa
