/-
 THE WALKS of wire.GetInts: the closure of 'reader', and the loop that calls it.
-/
import Derived.Test.YtgdibcgphjmofaaWalkDec
import Derived.Deep.QuietTactic
import Derived.BigQuiet
namespace Go.Proofs.Ytgdibcgphjmofaa
set_option maxHeartbeats 1000000
open Go.RowKit
theorem next_any (l : List UInt8) (A : Option Addr) (c L p g1 g2 : Nat) (w : World) (hr : Rd w L A (W.bc l)) (hc : l.length ≤ c) (hm : c ≤ maxLen) (hp : p ≤ l.length)
  (hh1 : w.heap[g1]? = some (.cells #[.slice A l.length c] 33 (0, 0))) (hh2 : w.heap[g2]? = some (.cells #[.int .i64 (p : Int)] 3 (0, 0)))
  (x : Int) (u : Nat) (er : Int) (hd : W.dec (l.drop p) = (x, u, er)) :
  Calls Try.prog 57 #[.pointer (some ⟨g1, 0, none⟩), .pointer (some ⟨g2, 0, none⟩)] w fun e w' =>
   e = .returned (.tuple #[.int .i64 x, .int .i64 ((p + u : Nat) : Int), .int .i64 er]) ∧ w.grownBy w' (some g2) ∧ w'.heap[g2]? = some (.cells #[.int .i64 ((p + u : Nat) : Int)] 3 (0, 0)) := by
 have h1 := cell_of_one hh1
 have h2 := cell_of_one hh2
 have hf := free_of_one hh2
 have HH2 := Lib.hid hh2; clear hh1 hh2
 have hr1 := hr.cut (k := p) (cap := c) (by rw [W.bc_length]; omega)
 rw [W.bc_drop] at hr1
 have hcon := getint_any (l.drop p) (if c = p then A else A.map (·.add p)) (l.length - p) (c - p) L w hr1 (by simp) (by omega) (by omega)
 have hat := W.dec_at_le (l.drop p)
 rw [hd] at hcon hat
 rw [List.length_drop] at hat
 simp only at hat
 have HCON := Lib.hid hcon; clear hcon hd hr1 hr
 unfold maxLen at hm
 go_enter Try.func57, Try.ntmps57
 go_wp2_with (go_at_call 56; (with_reducible refine HCON.out.mono ?_); rintro e w2 ⟨rfl, rfl⟩)
 all_goals
  go_quiet (fail)
  go_wp2
  go_ret3
  refine ⟨rfl, ⟨rfl, rfl, rfl, by simp [World.setCell, World.drewN], fun k _ hne => ?_⟩, one_setCell HH2.out⟩
  exact Below.heap_setCell w ⟨g2, 0, none⟩ _ k (fun e => hne (by rw [e]))
theorem own_lt_ne {w : World} {base e size n b : Nat} {v : Value} {xs : List Value} (h : w.ownsRow base e size v n xs) (hb : b < base) : v.ownBlock = none ∨ v.ownBlock ≠ some b := by
 cases hv : v.ownBlock with
 | none => exact .inl rfl
 | some k => exact .inr (fun e => by injection e with e; have := (h.lt k hv).1; omega)
theorem reader_any (A : Option Addr) (n c : Nat) (p : Int) (w : World) :
  Calls Try.prog 53 #[.slice A n c, .int .i64 p] w fun e w' =>
   e = .returned (.func (.func 57) #[] #[.pointer (some ⟨w.heap.size, 0, none⟩), .pointer (some ⟨w.heap.size + 1, 0, none⟩)]) ∧
   (w.alloc (.cells #[.slice A n c] 33)).alloc (.cells #[.int .i64 p] 3) = w' := by
 have hmf : ∀ (fn : Fn) (first cap : Array Value) (w : World), (Instr.makeFunc fn first cap).run Try.prog w = .ok (.func fn first cap) w := fun _ _ _ _ => rfl
 go_enter Try.func53, Try.ntmps53
 go_wp2
 go_ret
 exact ⟨rfl, rfl⟩
set_option maxRecDepth 100000 in
theorem wgetints_any (l : List UInt8) (A : Option Addr) (n c L : Nat) (w : World) (hr : Rd w L A (W.bc l)) (hL : L ≤ w.heap.size) (hn : n = l.length) (hc : n ≤ c) (hm : c ≤ maxLen) (hlen : n ≤ 4398046511104) :
  Calls Try.prog 46 #[.slice A n c] w (DecLEnds 3 1 (ic (W.decI l).1) (W.decI l).1.length (W.decI l).2.1 (W.decI l).2.2 w) := by
 subst hn
 obtain ⟨i0, hi, hz0, hz1, hz2⟩ := info_parts info_int
 have hdl : W.decI l = if (W.cnt l 1).2.2 ≠ 0 then ([], 0, (W.cnt l 1).2.2) else W.seqD W.dec l (W.cnt l 1).1.toNat (W.cnt l 1).2.1 [] := rfl
 by_cases he : (W.cnt l 1).2.2 = 0
 rotate_left
 ·rw [if_pos he] at hdl
  have HCON := Lib.hid (wcnt_err l A l.length c L 1 (W.cnt l 1).2.2 w hr rfl hc hm (by omega) (by omega) 1 rfl rfl)
  obtain ⟨er, her⟩ : ∃ er, er = (W.cnt l 1).2.2 := ⟨_, rfl⟩
  rw [← her] at HCON hdl he
  have hne : (er != 0) = true := by simp [he]
  have HDL := Lib.hid hdl; clear hdl her
  go_enter Try.func46, Try.ntmps46
  go_wp2_with (go_at_call 52; (with_reducible refine HCON.out.mono ?_); rintro e w' ⟨x, y, rfl, hb⟩)
  go_ret3
  rw [HDL.out]
  exact ⟨_, rfl, World.ownsRow_nil _ _ _ _, ‹Below w.heap.size w _›⟩
 rw [if_neg (by simp [he])] at hdl
 obtain ⟨K, hK, hKl, _⟩ := W.cnt_bound he
 obtain ⟨d2, hd2⟩ : ∃ d2, d2 = (W.cnt l 1).2.1 := ⟨_, rfl⟩
 have hcnt : W.cnt l 1 = ((K : Int), d2, 0) := by rw [← hK, hd2, ← he]
 rw [hK, ← hd2, Int.toNat_natCast] at hdl
 rw [← hd2, Nat.mul_one] at hKl
 have HCON := Lib.hid (wcnt_ok l A l.length c L 1 K d2 w hr rfl hc hm (by omega) (by omega) 1 rfl hcnt)
 have HDL := Lib.hid hdl
 clear hdl hd2 hK hcnt he
 have HR := Lib.hid hr; clear hr
 have HM := Lib.hid hm; clear hm
 go_enter Try.func46, Try.ntmps46
 go_wp2_with (first | (go_at_call 52; (with_reducible refine HCON.out.mono ?_); rintro e w1 ⟨rfl, k0⟩) | (go_at_call 53; refine (reader_any _ _ _ _ _).mono ?_; rintro e w2 ⟨rfl, rfl⟩))
 have k0 : Below w.heap.size w w1 := by assumption
 have hz1' := k0.size
 go_loopw [26, 9, 6] (fun ix v at_ wr => ∃ (k p : Nat) (acc : List Int), k ≤ K ∧ ix = .int .i64 k ∧ at_ = .int .i64 p ∧ p ≤ l.length ∧ Hid (acc.length = k ∧ W.decI l = W.seqD W.dec l (K - k) p acc) ∧
   wr.ownsRow (w1.heap.size + 2) 3 1 v k (ic acc) ∧ Below w.heap.size w wr ∧ w1.heap.size + 2 ≤ wr.heap.size ∧ Hid (wr.heap[w1.heap.size]? = some (.cells #[.slice A l.length c] 33 (0, 0)) ∧ wr.heap[w1.heap.size + 1]? = some (.cells #[.int .i64 (p : Int)] 3 (0, 0)))) (fun ix _ _ _ => K - (intOf ix).toNat)
 case atStart =>
  refine ⟨0, d2, [], by omega, rfl, rfl, by omega, ⟨rfl, HDL.out⟩, World.ownsRow_nil _ _ _ _, (k0.alloc k0.size _).alloc (by simp; omega) _, by simp, ?_, ?_⟩
  ·rw [Below.heap_alloc _ _ _ (by simp)]
   exact heap_alloc_new w1 _
  ·have := heap_alloc_new (w1.alloc (.cells #[.slice A l.length c] 33)) (.cells #[.int .i64 (d2 : Int)] 3)
   simpa using this
 case round =>
  obtain ⟨k, p, acc, hk, rfl, rfl, hp, HS, hown, hnx, hGz, HB⟩ := hrel
  by_cases hlt : k < K
  ·have hseq := HS.out.2
   rw [show K - k = (K - (k + 1)) + 1 from by omega] at hseq
   simp only [W.seqD] at hseq
   have hat := W.dec_at_le (l.drop p)
   rw [List.length_drop] at hat
   obtain ⟨x, u, er, hd⟩ : ∃ x u er, W.dec (l.drop p) = (x, u, er) := ⟨_, _, _, rfl⟩
   have HC2 := Lib.hid (next_any l A c L p w1.heap.size (w1.heap.size + 1) wr (HR.out.below hnx hL) hc HM.out hp HB.out.1 HB.out.2 x u er hd)
   rw [hd] at hseq hat
   simp only at hseq hat
   have hempty : er = 0 → p < l.length := by
    intro h0
    rcases Nat.lt_or_ge p l.length with h1 | h1
    ·exact h1
    ·rw [List.drop_eq_nil_of_le h1] at hd
     have h2 : (W.dec []).2.2 = 3 := rfl
     rw [hd] at h2
     simp only at h2
     omega
   have HSEQ := Lib.hid hseq
   clear hd hseq
   have hzr := hnx.size
   by_cases he2 : er = 0
   ·subst he2
    have hpl := hempty rfl
    clear hempty
    go_wp2_with (first
     | (go_at_call 57; (with_reducible refine HC2.out.mono ?_); rintro e w2 ⟨rfl, hg2, k1⟩)
     | (at_builtin; refine wpList_append_own _ rfl (.tmp 37) (.tmp 39) _ rfl (w1.heap.size + 2) 3 i0 _ 1 8 Try.underlying23 hi hz0 hz1 hz2 rfl (by decide) _ _ _ rfl ((hown.kept (by assumption : wr.grownBy w2 (some (w1.heap.size + 1))) (own_lt_ne hown (by omega))).alloc _) ⟨w2.heap.size, 0, none⟩ 1 1 [.int .i64 x] rfl rfl (cell_one_new _ _ _) (ic_oneCell [x]) (by unfold maxLen; omega) (by omega) (by have := World.grownBy.size (by assumption : wr.grownBy w2 (some (w1.heap.size + 1))); simp; omega) ?_))
    intro v' w3 hown3 hgrow _
    have hg2 : wr.grownBy w2 (some (w1.heap.size + 1)) := by assumption
    have k1 : w2.heap[w1.heap.size + 1]? = some (.cells #[.int .i64 ((p + u : Nat) : Int)] 3 (0, 0)) := by assumption
    have hz2' := hg2.size
    have hlo := fun g hg => (hown.lt g hg).1
    have hB : Below w.heap.size w w3 := ((hnx.grown hg2 hzr (fun g hg => by injection hg with hg; omega)).alloc (Nat.le_trans hzr hg2.size) _).grown hgrow (by simp; omega) (fun g hg => by have := hlo g hg; omega)
    have hb1' : w3.heap[w1.heap.size]? = some (.cells #[.slice A l.length c] 33 (0, 0)) := by
     rw [hgrow.block _ (by simp; omega) (fun e => by have := hlo _ e.symm; omega), Below.heap_alloc _ _ _ (by omega), hg2.block _ (by omega) (fun e => by injection e with e; omega)]
     exact HB.out.1
    have hb2' : w3.heap[w1.heap.size + 1]? = some (.cells #[.int .i64 ((p + u : Nat) : Int)] 3 (0, 0)) := by
     rw [hgrow.block _ (by simp; omega) (fun e => by have := hlo _ e.symm; omega), Below.heap_alloc _ _ _ (by omega)]
     exact k1
    have hgz3 : w1.heap.size + 2 ≤ w3.heap.size := by have := hgrow.size; simp at this; omega
    have k2 := Lib.hid (And.intro hb1' hb2')
    clear hgrow hown hb1' hb2' hlo k1 hg2
    go_wp2
    go_roundw
    case rel =>
     refine ⟨k + 1, p + u, acc ++ [x], by omega, by go_num, by go_num, by omega, ⟨by rw [List.length_append, HS.out.1]; rfl, ?_⟩, ?_, hB, hgz3, k2⟩
     ·have h1 := HSEQ.out
      rw [if_neg (by simp)] at h1
      exact h1
     ·rw [ic_snoc]
      exact hown3
    case measure => simp [intOf]; omega
   ·have hne2 : (er != 0) = true := by simp [he2]
    clear hempty
    go_wp2_with (go_at_call 57; (with_reducible refine HC2.out.mono ?_); rintro e w2 ⟨rfl, hg2, k1⟩)
    go_ret3
    have h1 := HSEQ.out
    rw [if_pos he2] at h1
    rw [h1]
    have hg2 : wr.grownBy w2 (some (w1.heap.size + 1)) := by assumption
    exact ⟨_, rfl, World.ownsRow_nil _ _ _ _, hnx.grown hg2 hzr (fun g hg => by injection hg with hg; omega)⟩
  ·obtain rfl : k = K := by omega
   have hseq := HS.out.2
   rw [Nat.sub_self] at hseq
   simp only [W.seqD] at hseq
   have HSEQ := Lib.hid hseq; clear hseq
   go_wp2
   go_ret3
   rw [HSEQ.out]
   refine ⟨_, rfl, ?_, hnx⟩
   rw [HS.out.1]
   exact own_base hown (by omega)
end Go.Proofs.Ytgdibcgphjmofaa
