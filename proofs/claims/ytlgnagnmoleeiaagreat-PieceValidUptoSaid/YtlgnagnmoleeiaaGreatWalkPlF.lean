/-
 THE WALKS of Compare: packages integer, rat and plane.
-/
import Derived.Test.YtlgnagnmoleeiaaGreatEmW
import Derived.Test.YtlgnagnmoleeiaaGreatFlow
import Derived.Test.YtlgnagnmoleeiaaGreatEmL
import Derived.RegionTactic
import Derived.BigRegion
import Derived.Deep.RegionHeld3
import Derived.ChangeAlike
import Derived.Test.YtlgnagnmoleeiaaGreatPlainL
import Derived.Deep.DeepCutAuto
import Derived.Deep.CutBlock
import Derived.Deep.LoopGhost
import Derived.Test.YtlgnagnmoleeiaaGreatWalkOf
import Derived.Test.YtlgnagnmoleeiaaGreatPlainI
import Derived.Test.YtlgnagnmoleeiaaGreatEmY
namespace Go.Proofs.YtlgnagnmoleeiaaGreat.E
open Go.RowKit
set_option linter.unusedVariables false
section
variable {x y : Int} {j k : Nat} {a b : List Int}
theorem bd_sg {s : Bool} (h : I.Bd k x) : I.Bd k (sg s x) := by
 unfold sg; split
 · exact h.neg
 · exact h
theorem e_div3 (bx : I.Bd k x) (by_ : I.Bd k y) (hk : k ≤ 800000000000) (h0 : y ≠ 0) : Pure PP 152 [.ag (dI x), .ag (dI y)] (.tu [.ag (dI (x / y)), .ag (dI (x % y))]) := by
 have lx := bd_len bx
 have ly := bd_len by_
 have bv : I.Bd k (I.val (digs y.natAbs)) := by rw [val_]; exact by_.of_le (by omega)
 obtain ⟨q, ⟨dq, vq⟩, hd⟩ := e_divided (can_d x) (can_d y) (by omega) bv (by omega) (by rw [val_]; omega)
 rw [val_, val_] at hd vq
 have hq0 : 0 ≤ (x.natAbs : Int) / (y.natAbs : Int) := Int.ediv_nonneg (by omega) (by omega)
 have hr0 := Int.emod_nonneg (x.natAbs : Int) (show (y.natAbs : Int) ≠ 0 by omega)
 have hr1 := Int.emod_lt_of_pos (x.natAbs : Int) (show 0 < (y.natAbs : Int) by omega)
 have hdm := Int.mul_ediv_add_emod (x.natAbs : Int) (y.natAbs : Int)
 have hq1 : (x.natAbs : Int) / (y.natAbs : Int) ≤ (x.natAbs : Int) := Int.ediv_le_self _ (by omega)
 have bQ : I.Bd k ((x.natAbs : Int) / (y.natAbs : Int)) := bx.of_le (by omega)
 have n1 := e_normal (decide (x < 0) != decide (y < 0)) dq
 have n2 := e_normal false (dig_ (x := (x.natAbs : Int) % (y.natAbs : Int)))
 rw [vq] at n1
 rw [sg_f, val_n hr0] at n2
 have b1 : I.Bd k 1 := by_.of_le (by omega)
 have nz : (((zs (digs y.natAbs)).length : Int) == 0) = false := by rw [zs_len]; exact len_nz h0
 have n3 := e_normal (decide (x < 0) != decide (y < 0)) (l := [1]) (fun d h => by simp at h; omega)
 rw [show I.val [1] = 1 by simp [I.val]] at n3
 generalize (x.natAbs : Int) / (y.natAbs : Int) = Q at *
 generalize (x.natAbs : Int) % (y.natAbs : Int) = r at *
 have hax : (x.natAbs : Int) = if x < 0 then -x else x := by split <;> omega
 have hay : (y.natAbs : Int) = if y < 0 then -y else y := by split <;> omega
 by_cases hx : x < 0
 · by_cases hr : r = 0
   · subst hr
     have e1 : x / y = sg (decide (x < 0) != decide (y < 0)) Q ∧ x % y = 0 := divE h0 (by
      rw [hax, hay] at hdm
      by_cases hy : y < 0 <;> simp only [hx, hy, if_true, if_false, decide_true, decide_false, sg, bne_self_eq_false, Bool.true_bne, Bool.not_false, Bool.false_eq_true] at hdm ⊢ <;> grind) (by omega) (by omega)
     rw [e1.1, e1.2]
     exact tr [na nz, cl hd, cl n1, cl n2, ye (decide_eq_true hx), na (t := decide (((zs (digs (0 : Int).natAbs)).length : Int) > 0)) (by rw [digs_z rfl]; rfl)] (by kernel_rfl)
   · obtain ⟨l2, ⟨dl2, vl2, _⟩, hl2⟩ := e_minus3 (a := digs y.natAbs) (b := digs r.natAbs) dig_ dig_ (by omega) (len_le (by omega)) (by rw [val_, val_]; omega)
     have ho2 := e_normal false dl2
     rw [vl2, sg_f, val_, val_n hr0] at ho2
     have e1 : x / y = sg (decide (x < 0) != decide (y < 0)) Q + sg (decide (x < 0) != decide (y < 0)) 1 ∧ x % y = (y.natAbs : Int) - r := divE h0 (by
      rw [hay]
      rw [hax, hay] at hdm
      by_cases hy : y < 0 <;> simp only [hx, hy, if_true, if_false, decide_true, decide_false, sg, bne_self_eq_false, Bool.true_bne, Bool.not_false, Bool.false_eq_true] at hdm ⊢ <;> grind) (by omega) (by omega)
     rw [e1.1, e1.2]
     exact tr [na nz, cl hd, cl n1, cl n2, ye (decide_eq_true hx), ye (t := decide (((zs (digs r.natAbs)).length : Int) > 0)) (by have := digs_nz hr; rw [zs_len]; exact decide_eq_true (by omega)), cl n3, cl (e_add3 (bd_sg (s := decide (x < 0) != decide (y < 0)) bQ) (bd_sg (s := decide (x < 0) != decide (y < 0)) b1) (by omega)), cl hl2, cl ho2] (by kernel_rfl)
 · have e1 : x / y = sg (decide (x < 0) != decide (y < 0)) Q ∧ x % y = r := divE h0 (by
    rw [hax, hay] at hdm
    by_cases hy : y < 0 <;> simp only [hx, hy, if_true, if_false, decide_true, decide_false, sg, bne_self_eq_false, Bool.false_bne, Bool.false_eq_true] at hdm ⊢ <;> grind) (by omega) (by omega)
   rw [e1.1, e1.2]
   exact tr [na nz, cl hd, cl n1, cl n2, na (decide_eq_false hx), nf] (by kernel_rfl)
noncomputable abbrev fg3 : Func := fnOf PP 139
theorem gcd3_small {d : Nat} : ∀ z : Nat × Nat, (z.1 < 1000000000000000000 ∧ z.2 < 1000000000000000000 ∧ Nat.gcd z.1 z.2 = d) → Gd PP 139 (.ag (dI (d : Int))) (lp fg3 1) (at_ fg3 [(4, .lp 2 0), (7, ni z.1), (8, ni z.2)] [.dead, .dead, .bx 26 [bo false, .nl]]) := by
 refine Gd.loop (fun z : Nat × Nat => at_ fg3 [(4, .lp 2 0), (7, ni z.1), (8, ni z.2)] [.dead, .dead, .bx 26 [bo false, .nl]]) _ (fun z => z.2) ?_
 rintro ⟨u, v⟩ ⟨hu, hv, hd⟩ ih
 simp only at hu hv hd ih ⊢
 cases v with
 | zero =>
  rw [Nat.gcd_zero_right] at hd
  subst hd
  exact fi [na (t := decide (((0 : Nat) : Int) > 0)) rfl, cl (e_of3 (x := (u : Int)) ⟨by omega, by omega⟩)] (by kernel_rfl) (by kernel_rfl)
 | succ n =>
  have h1 : u % (n + 1) < n + 1 := Nat.mod_lt _ (by omega)
  have h2 := ih (n + 1, u % (n + 1)) ⟨by simp only; omega, by simp only; omega, by simp only; rw [gcd_swap]; exact hd⟩ (by simp only; omega)
  exact .to mo_ [] [4, 7, 8] [2] 3 [ye (t := decide (((n + 1 : Nat) : Int) > 0)) (decide_eq_true (by omega)), .eqv 42 (ni ((u : Int).tmod ((n + 1 : Nat) : Int))) (ni ((u % (n + 1) : Nat) : Int)) (ni_eq (by rw [tm_ (by omega)]; omega))] h2 (by kernel_rfl)
theorem gcd3_loop {d : Nat} (hk : k ≤ 800000000000) : ∀ z : Nat × Nat, (I.Bd k z.1 ∧ I.Bd k z.2 ∧ Nat.gcd z.1 z.2 = d) →
  Gd PP 139 (.ag (dI (d : Int))) (lp fg3 0) (at_ fg3 [(4, .lp 2 0), (5, .lp 3 0), (6, .lp 4 0)] [.dead, .dead, .bx 26 [bo false, .nl], .bx 26 (dI (z.1 : Int)), .bx 26 (dI (z.2 : Int))]) := by
 refine Gd.loop (fun z : Nat × Nat => at_ fg3 [(4, .lp 2 0), (5, .lp 3 0), (6, .lp 4 0)] [.dead, .dead, .bx 26 [bo false, .nl], .bx 26 (dI (z.1 : Int)), .bx 26 (dI (z.2 : Int))]) _ (fun z => z.2) ?_
 rintro ⟨u, v⟩ ⟨bu, bv, hd⟩ ih
 simp only at bu bv hd ih ⊢
 by_cases hv : v = 0
 · subst hv
   rw [Nat.gcd_zero_right] at hd
   subst hd
   exact fi [na (t := decide (((zs (digs ((0 : Nat) : Int).natAbs)).length : Int) > 0)) (by rw [digs_z (x := ((0 : Nat) : Int)) rfl]; rfl)] (by kernel_rfl) (by kernel_rfl)
 have f0 : decide (((zs (digs (v : Int).natAbs)).length : Int) > 0) = true := by
  have := digs_nz (x := (v : Int)) (by omega)
  rw [zs_len]; exact decide_eq_true (by omega)
 have hlt : u % v < v := Nat.mod_lt _ (by omega)
 have hdv := e_div3 bu bv hk (by omega)
 rw [show ((u : Int) / (v : Int)) = ((u / v : Nat) : Int) by omega, show ((u : Int) % (v : Int)) = ((u % v : Nat) : Int) by omega] at hdv
 have hnext := ih (v, u % v) ⟨bv, bv.of_le (by simp only [Int.natAbs_natCast]; omega), by simp only; rw [gcd_swap]; exact hd⟩ (by simp only; omega)
 by_cases h1 : (digs (u : Int).natAbs).length ≤ 2
 · by_cases h2 : (digs (v : Int).natAbs).length ≤ 2
   · have t1 := e_tiny dig_ h1
     have t2 := e_tiny dig_ h2
     have w1 := two_lt dig_ h1
     have w2 := two_lt dig_ h2
     rw [nat_val] at t1 t2 w1 w2
     exact .to mo_ [] [4, 7, 8] [2] 3 [ye f0, ye (t := decide (((zs (digs (u : Int).natAbs)).length : Int) ≤ 2)) (decide_eq_true (by rw [zs_len]; omega)), ye (t := decide (((zs (digs (v : Int).natAbs)).length : Int) ≤ 2)) (decide_eq_true (by rw [zs_len]; omega)), cl t1, cl t2] (gcd3_small (u, v) ⟨by simp only; omega, by simp only; omega, hd⟩) (by kernel_rfl)
   · exact .to mo_ [] [4, 5, 6] [2, 3, 4] 5 [ye f0, ye (t := decide (((zs (digs (u : Int).natAbs)).length : Int) ≤ 2)) (decide_eq_true (by rw [zs_len]; omega)), na (t := decide (((zs (digs (v : Int).natAbs)).length : Int) ≤ 2)) (decide_eq_false (by rw [zs_len]; omega)), cl hdv] hnext (by kernel_rfl)
 · exact .to mo_ [] [4, 5, 6] [2, 3, 4] 5 [ye f0, na (t := decide (((zs (digs (u : Int).natAbs)).length : Int) ≤ 2)) (decide_eq_false (by rw [zs_len]; omega)), nf, cl hdv] hnext (by kernel_rfl)
theorem e_gcd3 (bx : I.Bd k x) (by_ : I.Bd k y) (hk : k ≤ 800000000000) : Pure PP 139 [.ag (dI x), .ag (dI y)] (.ag (dI (Int.gcd x y))) := by
 have o1 := e_normal false (dig_ (x := x))
 have o2 := e_normal false (dig_ (x := y))
 rw [sg_f, val_] at o1 o2
 have hg := gcd3_loop (k := k) (d := Nat.gcd x.natAbs y.natAbs) hk (x.natAbs, y.natAbs) ⟨by unfold I.Bd at *; simpa using bx, by unfold I.Bd at *; simpa using by_, rfl⟩
 exact pf (by kernel_rfl) (.to mo_ [] [4, 5, 6] [2, 3, 4] 5 [cl o1, cl o2] hg (by kernel_rfl))
noncomputable abbrev fs3 : Func := fnOf PP 112
theorem Pure.lenI {P : Program} {f : FuncId} {ds : List V} {D : RD} (i : Nat) {x : Int} (hok : okB P f = true) (hi : ds[i]? = some (.ag (dI x))) (h : (digs x.natAbs).length ≤ maxLen → Pure P f ds D) : Pure P f ds D :=
 ⟨okF_of hok, fun w M args hM ha cs => by
  have h1 := ha.2 i _ hi
  have h2 : (digs x.natAbs).length ≤ maxLen := by
   generalize args.getD i undef = u at h1
   cases h1 with
   | ag _ us _ h3 h4 =>
     have h5 := h4 1 (.sl (zs (digs x.natAbs))) rfl
     generalize us.getD 1 undef = u at h5
     cases h5 with
     | sl _ ad b off c zz _ us h1 h2' => rw [zs_len] at h1; omega
  exact (h h2).2 w M args hM ha cs⟩
/-- Integers that are the same. -/
theorem e_same3 (x y : Int) : Pure PP 112 [.ag (dI x), .ag (dI y)] (bo (decide (x = y))) := by
 refine .lenI 0 (x := x) (by kernel_rfl) rfl fun hm => ?_
 unfold maxLen at hm
 by_cases hs : decide (x < 0) = decide (y < 0)
 · by_cases hl : (digs x.natAbs).length = (digs y.natAbs).length
   · let X : Nat → St := fun i => at_ fs3 [(2, .lp 0 0), (3, .lp 1 0), (5, ni i)] [.bx 26 (dI x), .bx 26 (dI y)]
     refine pf (by kernel_rfl) (.to mo_ [] [2, 3, 5] [0, 1] 2 [na (t := decide (x < 0) != decide (y < 0)) (by rw [hs]; simp), na (t := ((zs (digs x.natAbs)).length : Int) != ((zs (digs y.natAbs)).length : Int)) (by rw [zs_len, zs_len, hl]; simp)] (td' := lp fs3 0) (σ' := X 0) ?_ (by kernel_rfl))
     refine Gd.loop X (fun i => i ≤ (digs x.natAbs).length ∧ (digs x.natAbs).take i = (digs y.natAbs).take i) (fun i => (digs x.natAbs).length - i) ?_ 0 ⟨Nat.zero_le _, rfl⟩
     intro i ⟨hi, he⟩ ih
     by_cases h : i < (digs x.natAbs).length
     · have ea := num_el (l := digs x.natAbs) (i := i) h
       have eb := num_el (l := digs y.natAbs) (i := i) (by omega)
       generalize (digs x.natAbs).getD i 0 = d at ea
       generalize (digs y.natAbs).getD i 0 = e at eb
       let F0 : List F_ := [ye (t := decide ((i : Int) < ((zs (digs x.natAbs)).length : Int))) (decide_eq_true (by rw [zs_len]; omega)), .sel _ _ _ (zs_at ea), .sel _ _ _ (zs_at eb)]
       by_cases hd : d = e
       · subst hd
         exact .to mo_ [] [2, 3, 5] [0, 1] 2 (F0 ++ [na (t := d != d) (by simp), inc 26 i (by omega)]) (ih (i + 1) ⟨h, by rw [I.take_snoc ea, I.take_snoc eb, he]⟩ (by omega)) (by kernel_rfl)
       · have hne : decide (x = y) = false := decide_eq_false fun e2 => hd (by subst e2; rw [ea] at eb; exact Option.some.inj eb)
         rw [hne]
         exact fi (F0 ++ [ye (t := d != e) (by simpa using hd)]) (by kernel_rfl) (by kernel_rfl)
     · have heq : digs x.natAbs = digs y.natAbs := by rwa [List.take_of_length_le (by omega), List.take_of_length_le (by omega)] at he
       have h2 : (x.natAbs : Int) = (y.natAbs : Int) := by rw [← val_ (x := x), ← val_ (x := y), heq]
       have h3 : x = y := by
        by_cases h4 : x < 0 <;> by_cases h5 : y < 0 <;> simp [h4, h5] at hs <;> omega
       rw [decide_eq_true h3]
       exact fi [na (t := decide ((i : Int) < ((zs (digs x.natAbs)).length : Int))) (decide_eq_false (by rw [zs_len]; omega))] (by kernel_rfl) (by kernel_rfl)
   · rw [decide_eq_false (fun e => hl (by rw [e]))]
     exact tr [na (t := decide (x < 0) != decide (y < 0)) (by rw [hs]; simp), ye (t := ((zs (digs x.natAbs)).length : Int) != ((zs (digs y.natAbs)).length : Int)) (by rw [zs_len, zs_len]; simp; exact fun e => hl (by exact_mod_cast e))] (by kernel_rfl)
 · rw [decide_eq_false (fun e => hs (by rw [e]))]
   exact tr [ye (t := decide (x < 0) != decide (y < 0)) (by simpa using hs), yt] (by kernel_rfl)
end
end Go.Proofs.YtlgnagnmoleeiaaGreat.E
namespace Go.Proofs.YtlgnagnmoleeiaaGreat
set_option maxHeartbeats 1000000
open Go.RowKit
attribute [local go_sem] run_store_one
set_option linter.unusedVariables false
end Go.Proofs.YtlgnagnmoleeiaaGreat
namespace Go.Proofs.YtlgnagnmoleeiaaGreat
set_option maxHeartbeats 1000000
open Go.RowKit
set_option linter.unusedVariables false
end Go.Proofs.YtlgnagnmoleeiaaGreat
namespace Go.Proofs.YtlgnagnmoleeiaaGreat
set_option maxHeartbeats 4000000
open Go.RowKit
set_option linter.unusedVariables false
/-- Where the rounds of long stand: the row U, the scaled divisor V, the digits that were found, so many rounds left. -/
structure LongAt (a b : List Int) (s : Int) (V : List Int) (m gk : Nat) (w wr : World) (gu gv gq : Nat) (U qs : List Int) : Prop where
 lu : U.length = a.length + 1
 du : I.Dig U
 dq : I.Dig qs
 lq : gk + qs.length + m + 1 = a.length
 e : I.val a * s = I.val U + I.val qs * I.pw gk * I.val V
 top : I.val (U.drop gk) < I.val V
 bu : Bk wr gu U
 bv : ∃ x, Bk wr gv (V ++ [x])
 bq : Bk wr gq (List.replicate gk 0 ++ qs)
 bw : Below w.heap.size w wr
section
variable {a b V U qs : List Int} {s : Int} {m gk gu gv gq : Nat} {w wr : World}
theorem LongAt.drewN (h : LongAt a b s V m gk w wr gu gv gq U qs) (k : Nat) : LongAt a b s V m gk w (wr.drewN k) gu gv gq U qs :=
 ⟨h.lu, h.du, h.dq, h.lq, h.e, h.top, h.bu.drewN k, (by obtain ⟨x, hx⟩ := h.bv; exact ⟨x, hx.drewN k⟩), h.bq.drewN k, bdN h.bw k⟩
theorem bk_cv {x : Int} {k : Nat} {e : Int} (h : Bk wr gv (V ++ [x])) (he : V[k]? = some e) : wr.cell? ⟨gv, k, none⟩ = some (.int .i64 e) :=
 h.cell (by rw [List.getElem?_append_left (List.getElem?_eq_some_iff.1 he).1]; exact he)
theorem LongAt.cv (h : LongAt a b s V m gk w wr gu gv gq U qs) {k : Nat} {e : Int} (he : V[k]? = some e) : wr.cell? ⟨gv, k, none⟩ = some (.int .i64 e) := by
 obtain ⟨x, hx⟩ := h.bv
 exact bk_cv hx he
/-- The end of a round. -/
theorem LongAt.next {j : Nat} {g : Int} {L : List Int} {wx : World} (h : LongAt a b s V m (j + 1) w wr gu gv gq U qs) (g0 : 0 ≤ g) (g1 : g < 1000000000) (dL : I.Dig L) (hl : L.length = U.length) (e : I.val L + g * I.val V * I.pw j = I.val U) (top : I.val (L.drop j) < I.val V)
  (bu : Bk wx gu L) (bv : ∃ x, Bk wx gv (V ++ [x])) (bq : Bk wx gq (List.replicate j 0 ++ g :: qs)) (bw : Below w.heap.size w wx) : LongAt a b s V m j w wx gu gv gq L (g :: qs) := by
 refine ⟨by rw [hl, h.lu], dL, h.dq.cons_ g0 g1, by have := h.lq; simp only [List.length_cons]; omega, ?_, top, bu, bv, bq, bw⟩
 have h1 := h.e
 rw [I.pw_succ] at h1
 simp only [I.val]
 grind
end
/-- Where the taking away stands: k digits of the divisor, times g, are taken from the row U; c is borrowed. -/
structure SubAt (V U qs : List Int) (n j k : Nat) (g c : Int) (w wx : World) (gu gv gq : Nat) (M : List Int) : Prop where
 lm : M.length = U.length
 dm : I.Dig M
 tk : M.take j = U.take j
 dp : M.drop (j + k) = U.drop (j + k)
 e : I.val M + g * I.val (V.take k) * I.pw j = I.val U + c * I.pw (j + k)
 bm : Bk wx gu M
 bv : ∃ x, Bk wx gv (V ++ [x])
 bq : Bk wx gq (List.replicate (j + 1) 0 ++ qs)
 bw : Below w.heap.size w wx
theorem SubAt.start {a b V U qs : List Int} {s : Int} {m j n gu gv gq : Nat} {g : Int} {w wx : World} (h : LongAt a b s V m (j + 1) w wx gu gv gq U qs) : SubAt V U qs n j 0 g 0 w wx gu gv gq U :=
 ⟨rfl, h.du, rfl, rfl, by simp [I.val], h.bu, h.bv, h.bq, h.bw⟩
theorem SubAt.step {V U qs M : List Int} {n j k gu gv gq : Nat} {g c e y x c' : Int} {w wx : World} (h : SubAt V U qs n j k g c w wx gu gv gq M) (hy : M[j + k]? = some y) (he : V[k]? = some e) (hx : x = y - g * e - c + c' * 1000000000) (x0 : 0 ≤ x) (x1 : x < 1000000000)
  (hv : gv ≠ gu) (hq : gq ≠ gu) (hg : w.heap.size ≤ gu) (r : Nat) : SubAt V U qs n j (k + 1) g c' w ((wx.drewN r).setCell ⟨gu, k + j, none⟩ (.int .i64 x)) gu gv gq (M.set (j + k) x) := by
 have hs := I.sub_step (c' := c') hy he h.e
 rw [← hx] at hs
 refine ⟨by rw [List.length_set]; exact h.lm, h.dm.set x0 x1, by rw [List.take_set_of_le (by omega)]; exact h.tk, ?_, hs, ?_, ?_, (h.bq.drewN r).far hq _, (bdN h.bw r).setCell hg _⟩
 ·rw [I.drop_set (by omega)]
  have := congrArg (List.drop 1) h.dp
  rwa [List.drop_drop, List.drop_drop] at this
 ·rw [Nat.add_comm j k]
  exact (h.bm.drewN r).set_ _ _
 ·obtain ⟨z, hz⟩ := h.bv
  exact ⟨z, (hz.drewN r).far hv _⟩
/-- Where the adding back stands: k digits of the divisor are added; the digit on top, t, is kept apart. -/
structure BackAt (V M0 qs : List Int) (n j k : Nat) (t c : Int) (w wx : World) (gu gv gq : Nat) (M : List Int) : Prop where
 lm : M.length = M0.length
 dm : I.Dig M
 tk : M.take j = M0.take j
 dp : M.drop (j + k) = M0.drop (j + k)
 e : I.val M + c * I.pw (j + k) = I.val M0 + I.val (V.take k) * I.pw j
 bm : Bk wx gu (M.set (j + n) t)
 bv : ∃ x, Bk wx gv (V ++ [x])
 bq : Bk wx gq (List.replicate (j + 1) 0 ++ qs)
 bw : Below w.heap.size w wx
theorem BackAt.step {V M0 qs M : List Int} {n j k gu gv gq : Nat} {t c e y : Int} {w wx : World} (h : BackAt V M0 qs n j k t c w wx gu gv gq M) (hk : k < n) (hy : M[j + k]? = some y) (he : V[k]? = some e)
  (hv : gv ≠ gu) (hq : gq ≠ gu) (hg : w.heap.size ≤ gu) (r : Nat) : BackAt V M0 qs n j (k + 1) t ((y + e + c) / 1000000000) w ((wx.drewN r).setCell ⟨gu, k + j, none⟩ (.int .i64 ((y + e + c) % 1000000000))) gu gv gq (M.set (j + k) ((y + e + c) % 1000000000)) := by
 have hs := I.back_step hy he h.e
 refine ⟨by rw [List.length_set]; exact h.lm, h.dm.set (by omega) (by omega), by rw [List.take_set_of_le (by omega)]; exact h.tk, ?_, hs, ?_, ?_, (h.bq.drewN r).far hq _, (bdN h.bw r).setCell hg _⟩
 ·rw [I.drop_set (by omega)]
  have := congrArg (List.drop 1) h.dp
  rwa [List.drop_drop, List.drop_drop] at this
 ·rw [List.set_comm _ _ (show j + k ≠ j + n by omega), Nat.add_comm j k]
  exact (h.bm.drewN r).set_ _ _
 ·obtain ⟨z, hz⟩ := h.bv
  exact ⟨z, (hz.drewN r).far hv _⟩
theorem SubAt.top {V U qs M : List Int} {n j gu gv gq : Nat} {g c d1 : Int} {w wx : World} (h : SubAt V U qs n j n g c w wx gu gv gq M) (hd1 : U[j + n]? = some d1) : M[j + n]? = some d1 := by
 have := congrArg (fun l => l[0]?) h.dp
 simpa [hd1] using this
theorem SubAt.fin {V U qs M : List Int} {n m j gu gv gq : Nat} {g c d1 : Int} {w wx : World} (h : SubAt V U qs n j n g c w wx gu gv gq M) (hLD : I.LD U V m j) (hn : n = m + 2) (hd1 : U[j + n]? = some d1) :
  (d1 - c < 0 ↔ I.val (U.drop j) < g * I.val V) ∧ (I.Gd (I.val (U.drop j)) (I.val V) g → ¬ d1 - c < 0 → I.Dig (M.set (j + n) (d1 - c)) ∧ (M.set (j + n) (d1 - c)).length = U.length ∧ I.val (M.set (j + n) (d1 - c)) + g * I.val V * I.pw j = I.val U ∧ I.val ((M.set (j + n) (d1 - c)).drop j) < I.val V) := by
 subst hn
 have he := h.e
 rw [List.take_of_length_le (by rw [hLD.hn]; exact Nat.le_refl _)] at he
 have h1 := hLD.neg h.dm h.lm h.tk h.dp hd1 he
 refine ⟨h1, fun hG hneg => ?_⟩
 have h2 := hLD.next h.dm h.lm h.tk h.dp hd1 he (by
  by_cases hc : g * I.val V ≤ I.val (U.drop j)
  ·exact hc
  ·exact absurd (h1.2 (by omega)) hneg) hG.x
 exact h2.2
theorem BackAt.start {V U qs M : List Int} {n j gu gv gq : Nat} {g c t : Int} {w wx : World} (h : SubAt V U qs n j n g c w wx gu gv gq M) (hv : gv ≠ gu) (hq : gq ≠ gu) (hg : w.heap.size ≤ gu) : BackAt V M qs n j 0 t 0 w (wx.setCell ⟨gu, j + n, none⟩ (.int .i64 t)) gu gv gq M :=
 ⟨rfl, h.dm, rfl, rfl, by simp [I.val], h.bm.set_ _ _, (by obtain ⟨z, hz⟩ := h.bv; exact ⟨z, hz.far hv _⟩), h.bq.far hq _, h.bw.setCell hg _⟩
theorem BackAt.fin {V U qs M M2 : List Int} {n m j gu gv gq gu' gv' gq' : Nat} {g c c2 d1 t : Int} {w wx w' wx' : World} (h : SubAt V U qs n j n g c w wx gu gv gq M) (h2 : BackAt V M qs n j n t c2 w' wx' gu' gv' gq' M2) (hLD : I.LD U V m j) (hn : n = m + 2) (hd1 : U[j + n]? = some d1)
  (hG : I.Gd (I.val (U.drop j)) (I.val V) g) (hneg : d1 - c < 0) :
  0 ≤ g - 1 ∧ I.Dig (M2.set (j + n) (d1 - c + c2)) ∧ (M2.set (j + n) (d1 - c + c2)).length = U.length ∧ I.val (M2.set (j + n) (d1 - c + c2)) + (g - 1) * I.val V * I.pw j = I.val U ∧ I.val ((M2.set (j + n) (d1 - c + c2)).drop j) < I.val V := by
 have h1 := (h.fin hLD hn hd1).1.1 hneg
 subst hn
 have he := h.e
 have he2 := h2.e
 rw [List.take_of_length_le (by rw [hLD.hn]; exact Nat.le_refl _)] at he he2
 have hx0 := I.val_nonneg (hLD.dU.drop j)
 have hg : 0 ≤ g - 1 := by
  have := hG.g0
  by_cases h0 : g = 0
  ·subst h0; omega
  ·omega
 have hGv := hG.v
 have h3 := hLD.next (M := M2) (g := g - 1) (c := c - c2) h2.dm (h2.lm.trans h.lm) (h2.tk.trans h.tk) (h2.dp.trans h.dp) hd1 (by rw [show j + m + 2 = j + (m + 2) from rfl]; generalize I.pw (j + (m + 2)) = P at *; generalize I.pw j = p at *; generalize I.val V = v at *; grind) (by rw [Int.sub_mul]; omega) (by rw [Int.sub_add_cancel]; exact h1)
 rw [show d1 - (c - c2) = d1 - c + c2 from by omega] at h3
 exact ⟨hg, h3.2⟩
end Go.Proofs.YtlgnagnmoleeiaaGreat
namespace Go.Proofs.YtlgnagnmoleeiaaGreat
set_option maxHeartbeats 2000000
open Go.RowKit
attribute [local go_sem] run_store_one
set_option linter.unusedVariables false
end Go.Proofs.YtlgnagnmoleeiaaGreat
namespace Go.Proofs.YtlgnagnmoleeiaaGreat
set_option maxHeartbeats 4000000
open Go.RowKit
attribute [local go_sem] run_store_one
set_option linter.unusedVariables false
end Go.Proofs.YtlgnagnmoleeiaaGreat
namespace Go.Proofs.YtlgnagnmoleeiaaGreat
set_option maxHeartbeats 4000000
open Go.RowKit
attribute [local go_sem] run_store_one
set_option linter.unusedVariables false
theorem two_yes (v : Value) (l : List Int) (w : World) (hs : Sl w v l) (hd : I.Dig l) (h : l.length ≤ 2) {M : Int} (hM : I.val l = M) :
  Calls Tryz.prog 186 #[v] w fun e w' => e = .returned (.tuple #[.int .i64 M, .bool true]) ∧ Below w.heap.size w w' := by
 have h1 := two_any v l w hs hd
 rw [if_pos h, decide_eq_true h, hM] at h1
 exact h1
theorem two_no (v : Value) (l : List Int) (w : World) (hs : Sl w v l) (hd : I.Dig l) (h : ¬ l.length ≤ 2) :
  Calls Tryz.prog 186 #[v] w fun e w' => e = .returned (.tuple #[.int .i64 0, .bool false]) ∧ Below w.heap.size w w' := by
 have h1 := two_any v l w hs hd
 rw [if_neg h, decide_eq_false h] at h1
 exact h1
theorem two_lt {l : List Int} (hd : I.Dig l) (h : l.length ≤ 2) : I.val l < 1000000000000000000 := Int.lt_of_lt_of_le (I.val_lt hd) (I.pw_mono h)
end Go.Proofs.YtlgnagnmoleeiaaGreat
namespace Go.Proofs.YtlgnagnmoleeiaaGreat
set_option maxHeartbeats 4000000
open Go.RowKit
attribute [local go_sem] run_store_one
set_option linter.unusedVariables false
theorem divInt_pos {p q : Int} (h : 0 < q) (hg : Int.gcd p q = 1) : (Rat.divInt p q).num = p ∧ ((Rat.divInt p q).den : Int) = q := by
 obtain ⟨d, rfl⟩ := Int.eq_ofNat_of_zero_le (Int.le_of_lt h)
 have := Rat.mk_eq_divInt (num := p) (den := d) (nz := by omega) (c := by simpa [Int.gcd] using hg)
 rw [← this]
 exact ⟨rfl, rfl⟩
theorem divInt_neg_ {p q : Int} (h : q < 0) (hg : Int.gcd p q = 1) : (Rat.divInt p q).num = -p ∧ ((Rat.divInt p q).den : Int) = -q := by
 have h2 := divInt_pos (p := -p) (q := -q) (by omega) (by rw [Int.gcd_neg, Int.neg_gcd]; exact hg)
 rw [← Rat.neg_divInt_neg]
 exact h2
theorem gcd_ne {x y : Int} (hy : y ≠ 0) : (Int.gcd x y : Int) ≠ 0 := by
 have := Int.gcd_pos_of_ne_zero_right x hy
 omega
theorem divInt_low {x y : Int} (hy : y ≠ 0) : Rat.divInt (x / (Int.gcd x y : Int)) (y / (Int.gcd x y : Int)) = Rat.divInt x y := by
 have h1 := Int.ediv_mul_cancel (Int.gcd_dvd_left (a := x) (b := y))
 have h2 := Int.ediv_mul_cancel (Int.gcd_dvd_right (a := x) (b := y))
 have := Rat.divInt_mul_right (n := x / (Int.gcd x y : Int)) (d := y / (Int.gcd x y : Int)) (gcd_ne (x := x) hy)
 rw [h1, h2] at this
 exact this.symm
theorem gcd_low {x y : Int} (hy : y ≠ 0) : Int.gcd (x / (Int.gcd x y : Int)) (y / (Int.gcd x y : Int)) = 1 := by
 have := Int.gcd_pos_of_ne_zero_right x hy
 rw [Int.gcd_ediv_gcd_ediv_gcd this]
theorem low_ne {x y : Int} (hy : y ≠ 0) : y / (Int.gcd x y : Int) ≠ 0 := by
 have h2 := Int.ediv_mul_cancel (Int.gcd_dvd_right (a := x) (b := y))
 intro h
 rw [h] at h2
 omega
end Go.Proofs.YtlgnagnmoleeiaaGreat
namespace Go.Proofs.YtlgnagnmoleeiaaGreat
set_option maxHeartbeats 1000000
open Go.RowKit
attribute [local go_sem] run_store_one
set_option linter.unusedVariables false
theorem bd64 {x : Int} (h : W.Is64 x) : I.Bd 64 x := by
 unfold W.Is64 at h
 unfold I.Bd
 omega
end Go.Proofs.YtlgnagnmoleeiaaGreat
namespace Go.Proofs.YtlgnagnmoleeiaaGreat
set_option maxHeartbeats 4000000
open Go.RowKit
attribute [local go_sem] run_store_one
set_option linter.unusedVariables false
end Go.Proofs.YtlgnagnmoleeiaaGreat
namespace Go.Proofs.YtlgnagnmoleeiaaGreat
set_option maxHeartbeats 4000000
open Go.RowKit
attribute [local go_sem] run_store_one
set_option linter.unusedVariables false
theorem RatV.zero (w : World) : RatV w (.bool false) (.slice none 0 0) (.bool false) (.slice none 0 0) 0 := ⟨IntV.zero w, IntV.zero w⟩
end Go.Proofs.YtlgnagnmoleeiaaGreat
namespace Go.Proofs.YtlgnagnmoleeiaaGreat
set_option maxHeartbeats 2000000
open Go.RowKit
attribute [local go_sem] run_store_one
set_option linter.unusedVariables false
theorem Bq.div {j k : Nat} {r t : Rat} (h : Bq j r) (g : Bq k t) (hj : 0 < j) : Bq (j + k) (r / t) := by
 by_cases h0 : t.num = 0
 ·rw [num_zero.1 h0, Rat.div_def, Rat.inv_zero, Rat.mul_zero]
  exact Bq.zero (by omega)
 ·rw [Rat.div_def]
  exact h.mul (g.inv h0)
theorem Bq.sub {j k : Nat} {r t : Rat} (h : Bq j r) (g : Bq k t) : Bq (j + k + 1) (r - t) := by
 rw [Rat.sub_eq_add_neg]
 exact h.add g.neg
end Go.Proofs.YtlgnagnmoleeiaaGreat
namespace Go.Proofs.YtlgnagnmoleeiaaGreat
set_option maxHeartbeats 1000000
open Go.RowKit
attribute [local go_sem] run_store_one
set_option linter.unusedVariables false
end Go.Proofs.YtlgnagnmoleeiaaGreat
namespace Go.Proofs.YtlgnagnmoleeiaaGreat
set_option maxHeartbeats 2000000
open Go.RowKit
attribute [local go_sem] run_store_one
set_option linter.unusedVariables false
end Go.Proofs.YtlgnagnmoleeiaaGreat
namespace Go.Proofs.YtlgnagnmoleeiaaGreat
set_option maxHeartbeats 4000000
open Go.RowKit
attribute [local go_sem] run_store_one
set_option linter.unusedVariables false
theorem Bv.add {j k : Nat} {v u : Rat × Rat} (h : Bv j v) (g : Bv k u) : Bv (j + k + 1) (vadd v u) := ⟨h.1.add g.1, h.2.add g.2⟩
theorem Bv.sub {j k : Nat} {v u : Rat × Rat} (h : Bv j v) (g : Bv k u) : Bv (j + k + 1) (vsub v u) := ⟨h.1.sub g.1, h.2.sub g.2⟩
theorem Bv.sca {j k : Nat} {v : Rat × Rat} {r : Rat} (h : Bv j v) (g : Bq k r) : Bv (j + k) (vsca v r) := ⟨h.1.mul g, h.2.mul g⟩
theorem Bv.dot {j k : Nat} {v u : Rat × Rat} (h : Bv j v) (g : Bv k u) : Bq (2 * (j + k) + 1) (vdot v u) := ((h.1.mul g.1).add (h.2.mul g.2)).mono (by omega)
theorem Bv.crs {j k : Nat} {v u : Rat × Rat} (h : Bv j v) (g : Bv k u) : Bq (2 * (j + k) + 1) (vcrs v u) := ((h.1.mul g.2).sub (h.2.mul g.1)).mono (by omega)
theorem Bv.rot {j k : Nat} {t a : Rat × Rat} (h : Bv j t) (g : Bv k a) : Bv (2 * (j + k) + 1) (vrot t a) := ⟨((h.1.mul g.1).sub (h.2.mul g.2)).mono (by omega), ((h.2.mul g.1).add (h.1.mul g.2)).mono (by omega)⟩
end Go.Proofs.YtlgnagnmoleeiaaGreat
namespace Go.Proofs.YtlgnagnmoleeiaaGreat
set_option maxHeartbeats 2000000
open Go.RowKit
attribute [local go_sem] run_store_one
set_option linter.unusedVariables false
end Go.Proofs.YtlgnagnmoleeiaaGreat
namespace Go.Proofs.YtlgnagnmoleeiaaGreat
set_option maxHeartbeats 4000000
open Go.RowKit
attribute [local go_sem] run_store_one
set_option linter.unusedVariables false
/-- The order of two rationals: -1, 0 or 1. -/
def cmpQ (r t : Rat) : Int := if r < t then -1 else if t < r then 1 else 0
theorem cmp_cross (r t : Rat) : cmpZ (r.num * t.den) (t.num * r.den) = cmpQ r t := by
 unfold cmpZ cmpQ
 simp only [Rat.lt_iff]
theorem cmpQ_sgn {r t : Rat} (h : sgnZ r.num ≠ sgnZ t.num ∨ sgnZ r.num = 0) : cmpZ (sgnZ r.num) (sgnZ t.num) = cmpQ r t := by
 rw [← cmp_cross]
 have hr : 0 < (r.den : Int) := by have := r.den_pos; omega
 have ht : 0 < (t.den : Int) := by have := t.den_pos; omega
 generalize r.num = a at *
 generalize t.num = b at *
 generalize (r.den : Int) = c at *
 generalize (t.den : Int) = d at *
 rcases Int.lt_trichotomy a 0 with ha | ha | ha <;> rcases Int.lt_trichotomy b 0 with hb | hb | hb
 ·exfalso; rw [show sgnZ a = -1 from cmpZ_lt ha, show sgnZ b = -1 from cmpZ_lt hb] at h; omega
 ·subst hb; have := Int.mul_neg_of_neg_of_pos ha ht; rw [show sgnZ a = -1 from cmpZ_lt ha, show sgnZ 0 = 0 from rfl, Int.zero_mul, cmpZ_lt this]; rfl
 ·have h1 := Int.mul_neg_of_neg_of_pos ha ht; have h2 := Int.mul_pos hb hr; rw [show sgnZ a = -1 from cmpZ_lt ha, show sgnZ b = 1 from cmpZ_gt hb, cmpZ_lt (x := a * d) (by omega)]; rfl
 ·subst ha; have := Int.mul_neg_of_neg_of_pos hb hr; rw [show sgnZ b = -1 from cmpZ_lt hb, show sgnZ 0 = 0 from rfl, Int.zero_mul, cmpZ_gt (x := 0) this]; rfl
 ·subst ha; subst hb; rw [show sgnZ 0 = 0 from rfl, Int.zero_mul, Int.zero_mul]
 ·subst ha; have := Int.mul_pos hb hr; rw [show sgnZ b = 1 from cmpZ_gt hb, show sgnZ 0 = 0 from rfl, Int.zero_mul, cmpZ_lt this]; rfl
 ·have h1 := Int.mul_pos ha ht; have h2 := Int.mul_neg_of_neg_of_pos hb hr; rw [show sgnZ a = 1 from cmpZ_gt ha, show sgnZ b = -1 from cmpZ_lt hb, cmpZ_gt (x := a * d) (by omega)]; rfl
 ·subst hb; have := Int.mul_pos ha ht; rw [show sgnZ a = 1 from cmpZ_gt ha, show sgnZ 0 = 0 from rfl, Int.zero_mul, cmpZ_gt this]; rfl
 ·exfalso; rw [show sgnZ a = 1 from cmpZ_gt ha, show sgnZ b = 1 from cmpZ_gt hb] at h; omega
theorem sgn64 (x : Int) : W.Is64 (sgnZ x) := by
 unfold sgnZ cmpZ
 split
 ·exact ⟨by omega, by omega⟩
 ·split <;> exact ⟨by omega, by omega⟩
end Go.Proofs.YtlgnagnmoleeiaaGreat
