/-
 THE WALK of the reference's Read.
-/
import Derived.Test.YtgdibcgphjmofaaLnkT2
import Derived.Test.YtgdibcgphjmofaaLnkO3
namespace Go.Proofs.Ytgdibcgphjmofaa
set_option maxHeartbeats 1000000
open Go.RowKit
open Go.Maps
set_option linter.unusedVariables false
/-- The state of the reference's end. -/
structure Rn.E where
 win : Int
 key : Int
 sent : List (List UInt8)
 acked : Int
 got : Int
 held : List (Int × List UInt8)
 owing : Bool
 forged : Int
def Rn.look (l : List (Int × List UInt8)) (i : Int) : Option (List UInt8) := (l.find? (fun x => x.1 == i)).map (·.2)
/-- As a state of the program's end. -/
def Rn.E.k (R : Rn.E) : K.E := ⟨R.win, R.key, R.sent.drop R.acked.toNat, R.acked, R.got, Rn.look R.held, R.owing, R.forged, R.held.length⟩
/-- The cells of a row of held messages. -/
def Rn.hc : List (Int × List UInt8) → List Value → List Value
 | h :: hs, v :: vs => .int .i64 h.1 :: v :: Rn.hc hs vs
 | _, _ => []
theorem Rn.hc_len : ∀ (hs : List (Int × List UInt8)) (vs : List Value), vs.length = hs.length → (Rn.hc hs vs).length = hs.length * 2
 | [], [], _ => rfl
 | h :: hs, v :: vs, e => by
  simp only [Rn.hc, List.length_cons]
  rw [Rn.hc_len hs vs (by simpa using e)]
  omega
theorem Rn.hc_get : ∀ (hs : List (Int × List UInt8)) (vs : List Value) (i : Nat) (h : Int × List UInt8) (v : Value), hs[i]? = some h → vs[i]? = some v → (Rn.hc hs vs)[i * 2]? = some (.int .i64 h.1) ∧ (Rn.hc hs vs)[i * 2 + 1]? = some v
 | [], _, _, _, _, h1, _ => by simp at h1
 | _ :: _, [], _, _, _, _, h2 => by simp at h2
 | a :: hs, b :: vs, 0, h, v, h1, h2 => by
  simp at h1 h2
  subst h1; subst h2
  exact ⟨rfl, rfl⟩
 | a :: hs, b :: vs, i + 1, h, v, h1, h2 => by
  have := Rn.hc_get hs vs i h v (by simpa using h1) (by simpa using h2)
  rw [show (i + 1) * 2 = i * 2 + 2 by omega, show i * 2 + 2 + 1 = i * 2 + 1 + 2 by omega]
  exact this
theorem Rn.hc_app : ∀ (hs ks : List (Int × List UInt8)) (vs us : List Value), vs.length = hs.length → Rn.hc (hs ++ ks) (vs ++ us) = Rn.hc hs vs ++ Rn.hc ks us
 | [], _, [], _, _ => rfl
 | h :: hs, ks, v :: vs, us, e => by
  simp only [List.cons_append, Rn.hc]
  rw [Rn.hc_app hs ks vs us (by simpa using e)]
def Rn.cells (R : Rn.E) (sv hv : Value) : List Value := [.int .i64 R.win, .int .u64 R.key, sv, .int .i64 R.acked, .int .i64 R.got, hv, .bool R.owing, .int .i64 R.forged]
/-- It lies in memory: its box, its row of messages, its row of held ones. -/
def REnd (w : World) (b : Nat) (own : List Nat) (R : Rn.E) : Prop := ∃ sv hv us vs, Bx w b 31 (Rn.cells R sv hv) ∧ w.ownsRow 0 33 1 sv R.sent.length us ∧ Vs w us R.sent ∧
 w.ownsRow 0 78 2 hv R.held.length (Rn.hc R.held vs) ∧ Vs w vs (R.held.map (·.2)) ∧ own = b :: sv.ownBlock.toList ++ hv.ownBlock.toList
theorem REnd.keep {w w' : World} {b : Nat} {own : List Nat} {R : Rn.E} (h : REnd w b own R) (k : KB w w') (hk : ∀ x ∈ own, w'.heap[x]? = w.heap[x]?) : REnd w' b own R := by
 obtain ⟨sv, hv, us, vs, h1, h2, h3, h4, h5, h6⟩ := h
 subst h6
 refine ⟨sv, hv, us, vs, (hk b (by simp)).trans h1, ?_, h3.kb k, ?_, h5.kb k, rfl⟩
 ·refine ⟨h2.1, ?_⟩
  rcases h2.2 with h | ⟨g, cap, cur, rfl, hb, hg, r⟩
  ·exact .inl h
  ·exact .inr ⟨g, cap, cur, rfl, hb, (hk g (by simp [Value.ownBlock])).trans hg, r⟩
 ·refine ⟨h4.1, ?_⟩
  rcases h4.2 with h | ⟨g, cap, cur, rfl, hb, hg, r⟩
  ·exact .inl h
  ·exact .inr ⟨g, cap, cur, rfl, hb, (hk g (by simp [Value.ownBlock])).trans hg, r⟩
theorem REnd.lt {w : World} {b : Nat} {own : List Nat} {R : Rn.E} (h : REnd w b own R) : ∀ x ∈ own, x < w.heap.size := by
 obtain ⟨sv, hv, us, vs, h1, h2, h3, h4, h5, h6⟩ := h
 subst h6
 intro x hx
 simp only [List.cons_append, List.mem_cons, List.mem_append, Option.mem_toList] at hx
 rcases hx with rfl | hx | hx
 ·exact h1.lt
 ·exact (h2.lt x hx).2
 ·exact (h4.lt x hx).2
theorem REnd.tt {w w' : World} {b : Nat} {own R' : List Nat} {R : Rn.E} (h : REnd w b own R) (t : TT R' w w') (hd : ∀ x ∈ own, x ∉ R') : REnd w' b own R := h.keep t.2 (fun x hx => t.1.block x (h.lt x hx) (hd x hx))
theorem REnd.below {w w' : World} {b : Nat} {own : List Nat} {R : Rn.E} (h : REnd w b own R) (t : Below w.heap.size w w') : REnd w' b own R := h.keep (.of t) (fun x hx => t.block x (h.lt x hx))
/-- Where a message is held, or -1. -/
def Rn.find (l : List (Int × List UInt8)) (s : Int) : Int := match l.findIdx? (fun x => x.1 == s) with
 | some i => (i : Int)
 | none => -1
theorem find_any (b : Nat) (own : List Nat) (R : Rn.E) (s : Int) (w : World) (h : REnd w b own R) (hn : R.held.length ≤ 1000000000) :
  Calls Try.prog 40 #[.pointer (some ⟨b, 0, none⟩), .int .i64 s] w fun e w' => e = .returned (.int .i64 (Rn.find R.held s)) ∧ w = w' := by
 obtain ⟨sv, hv, us, vs, hx, -, -, ho, hvs, -⟩ := h
 obtain ⟨N, hN⟩ : ∃ N, N = R.held.length := ⟨_, rfl⟩
 rw [← hN] at ho hn
 have HN := Lib.hid hN; have HO := Lib.hid ho; have HVS := Lib.hid hvs
 obtain ⟨A, c, rfl, hc, hm, -⟩ := own_form ho
 unfold maxLen at hm
 clear ho hvs hN
 obtain ⟨c0, c1, c2, c3, c4, c5, c6, c7, z, l0⟩ := hx.f8
 clear hx
 go_enter Try.func40, Try.ntmps40
 go_wp2_with fail
 go_loopw [5] (fun s5 wr => ∃ i : Nat, i ≤ N ∧ s5 = .int .i64 (i : Int) ∧ (∀ j, j < i → ∀ x, R.held[j]? = some x → (x.1 == s) = false) ∧ w = wr) (fun ix _ => (N - (intOf ix).toNat))
 case atStart => exact ⟨0, by omega, rfl, fun j hj => absurd hj (by omega), rfl⟩
 case round =>
  obtain ⟨i, hi2, rfl, hno, rfl⟩ := hrel
  have HNO := Lib.hid hno; clear hno
  by_cases hi : i < N
  ·have hid_ := decide_eq_true (show (i : Int) < (N : Int) by omega)
   have hi3 : (i : Int) < (N : Int) := by omega
   have hi4 : (0 : Int) ≤ (i : Int) := by omega
   obtain ⟨x, hx⟩ : ∃ x, R.held[i]? = some x := ⟨_, List.getElem?_eq_getElem (by rw [← HN.out]; exact hi)⟩
   obtain ⟨v, hv⟩ : ∃ v, vs[i]? = some v := ⟨_, List.getElem?_eq_getElem (by rw [HVS.out.1, List.length_map, ← HN.out]; exact hi)⟩
   obtain ⟨g, c', ep, -⟩ := own_pos HO.out (by omega)
   have hap : A = some ⟨g, 0, none⟩ := by injection ep
   subst hap
   have hcell := own_cells HO.out (i * 2) _ (Rn.hc_get R.held vs i x v hx hv).1
   rw [Addr.add_lit, Nat.zero_add] at hcell
   have HX := Lib.hid hx
   clear hx hv ep
   by_cases hs : x.1 = s
   ·have hsd : (x.1 == s) = true := by simpa using hs
    have HS := Lib.hid hsd
    subst hs
    go_wp2
    go_ret
    refine ⟨?_, rfl⟩
    have : R.held.findIdx? (fun y => y.1 == x.1) = some i := by
     rw [List.findIdx?_eq_some_iff_getElem]
     refine ⟨by rw [← HN.out]; exact hi, ?_, fun j hj => ?_⟩
     ·have h1 := HX.out
      rw [List.getElem?_eq_getElem (by rw [← HN.out]; exact hi)] at h1
      injection h1 with h1
      rw [h1]; exact HS.out
     ·have := HNO.out j hj _ (List.getElem?_eq_getElem (by have := HN.out; omega))
      simpa using this
    unfold Rn.find
    rw [this]
    rfl
   ·have hsd : (x.1 == s) = false := by simpa using hs
    have HS := Lib.hid hsd
    go_wp2
    refine ⟨⟨i + 1, by omega, by go_num, fun j hj y hy => ?_, trivial⟩, by simp [intOf]; omega⟩
    by_cases hji : j < i
    ·exact HNO.out j hji y hy
    ·obtain rfl : j = i := by omega
     rw [HX.out] at hy
     injection hy with hy
     rw [← hy]; exact HS.out
  ·have hid_ := decide_eq_false (show ¬ (i : Int) < (N : Int) by omega)
   have hi3 : ¬ (i : Int) < (N : Int) := by omega
   go_wp2
   go_ret
   refine ⟨?_, rfl⟩
   have : R.held.findIdx? (fun y => y.1 == s) = none := by
    rw [List.findIdx?_eq_none_iff]
    intro y hy
    obtain ⟨j, hj⟩ := List.mem_iff_getElem?.1 hy
    exact HNO.out j (by have := (List.getElem?_eq_some_iff.1 hj).1; have := HN.out; omega) y hj
   unfold Rn.find
   rw [this]
   rfl
end Go.Proofs.Ytgdibcgphjmofaa
namespace Go.Proofs.Ytgdibcgphjmofaa
set_option maxHeartbeats 1000000
open Go.RowKit
open Go.Maps
set_option linter.unusedVariables false
theorem same_true {wx : World} {u v : Value} {Y : List UInt8} (h1 : BV wx u Y) (h2 : BV wx v Y) : Calls Try.prog 29 #[u, v] wx fun e w' => e = .returned (.bool true) ∧ Below wx.heap.size wx w' := by
 have h := same_bv h1 h2
 rw [decide_eq_true rfl] at h
 exact h.mono fun e w' ⟨h3, n, h4⟩ => ⟨h3, by subst h4; exact bdN (Below.refl _ _) n⟩
set_option maxRecDepth 100000 in
theorem same_lists {B B' : Nat} {w : World} {u v : Value} {ls : List (List UInt8)} (hu : RowV B w u ls) (hv : RowV B' w v ls) :
  Calls Try.prog 15 #[u, v] w fun e w' => e = .returned (.bool true) ∧ Below w.heap.size w w' := by
 obtain ⟨A1, c1, rfl, -, hm1⟩ := hu.form
 obtain ⟨A2, c2, rfl, -, -⟩ := hv.form
 have HU := Lib.hid hu; have HV := Lib.hid hv
 obtain ⟨n, hn⟩ : ∃ n, n = ls.length := ⟨_, rfl⟩
 have HN := Lib.hid hn
 have hnb : n ≤ 9223372036854775807 := by have := hu.form; obtain ⟨A, c, e, h1, h2⟩ := this; unfold maxLen at h2; omega
 rw [← hn]
 clear hu hv hn hm1
 go_enter Try.func15, Try.ntmps15
 go_wp2_with fail
 go_loopw [5] (fun s5 wr => ∃ i : Nat, i ≤ n ∧ s5 = .int .i64 (i : Int) ∧ Hid (Below w.heap.size w wr)) (fun ix _ => (n - (intOf ix).toNat))
 case atStart => exact ⟨0, by omega, rfl, Lib.hid (Below.refl _ _)⟩
 case round =>
  obtain ⟨i, hi2, rfl, HB⟩ := hrel
  obtain ⟨wo, rfl⟩ : ∃ wo : World, wo = wr := ⟨_, rfl⟩
  by_cases hi : i < n
  ·have hid_ := decide_eq_true (show (i : Int) < (n : Int) by omega)
   have hi3 : (i : Int) < (n : Int) := by omega
   have hi4 : (0 : Int) ≤ (i : Int) := by omega
   obtain ⟨l, hl⟩ : ∃ l, ls[i]? = some l := ⟨_, List.getElem?_eq_getElem (by have := HN.out; omega)⟩
   obtain ⟨g1, q1, x1, e1, k4, k8, -, -⟩ := (HU.out.below HB.out).at_ hl
   obtain ⟨g2, q2, x2, e2, k5, k9, -, -⟩ := (HV.out.below HB.out).at_ hl
   have ha1 : A1 = some ⟨g1, 0, none⟩ := by injection e1
   have ha2 : A2 = some ⟨g2, 0, none⟩ := by injection e2
   subst ha1; subst ha2
   have k6 := Lib.hid k8; have k7 := Lib.hid k9
   obtain ⟨X1, k1, rfl, -⟩ := k8
   obtain ⟨X2, k2, rfl, -⟩ := k9
   have HC1 := Lib.hid (fun (wx : World) (hb : Below wo.heap.size wo wx) => (hb.cell (p := ⟨g1, i, none⟩) (World.block_lt_of_cell? wo ⟨g1, i, none⟩ k4)).trans k4)
   have HC2 := Lib.hid (fun (wx : World) (hb : Below wo.heap.size wo wx) => (hb.cell (p := ⟨g2, i, none⟩) (World.block_lt_of_cell? wo ⟨g2, i, none⟩ k5)).trans k5)
   obtain ⟨nl, hnl⟩ : ∃ nl, nl = l.length := ⟨_, rfl⟩
   rw [← hnl] at HC1 HC2 k6 k7
   clear k4 k5 e1 e2 hl hnl
   go_upto_region 6 with fail
   generalize hW_6 : wo.drew = W_6
   refine gen_act ?_
   intro F_ hF_
   have ev0 : F_.eval (.tmp 0) = .slice (some ⟨g1, 0, none⟩) n c1 := by rw [← hF_]; rfl
   have ev1 : F_.eval (.tmp 1) = .slice (some ⟨g2, 0, none⟩) n c2 := by rw [← hF_]; rfl
   have ev5 : F_.eval (.tmp 5) = .int .i64 (i : Int) := by rw [← hF_]; rfl
   have hsz_ : ∀ d ∈ ([(17, []), (18, []), (19, [0, 1]), (20, [2]), (21, []), (22, []), (23, [4, 5]), (24, [6]), (25, [3, 7]), (26, [8])] : List (Nat × List Nat)).map (·.1), d < F_.tmps.size := by rw [← hF_]; simp
   have HF_ := Lib.hid hF_; clear hF_
   refine wp_flow_tab true hW_6 10 [(17, []), (18, []), (19, [0, 1]), (20, [2]), (21, []), (22, []), (23, [4, 5]), (24, [6]), (25, [3, 7]), (26, [8])] [SC (.slice (some ⟨g1, 0, none⟩) n c1), SC (.int .i64 (i : Int)), SC (.pointer (some ⟨g1, i, none⟩)), SC (.slice X1 nl k1), SC (.slice (some ⟨g2, 0, none⟩) n c2), SC (.int .i64 (i : Int)), SC (.pointer (some ⟨g2, i, none⟩)), SC (.slice X2 nl k2), SC (.bool true), SC (.bool false)] [false, false, false, false, false, false, false, false, false, false] (by kernel_rfl) (by kernel_rfl) (by kernel_rfl) (by kernel_rfl) (by kernel_rfl) hsz_ ⟨SC.mono _, SC.mono _, SC.mono _, SC.mono _, SC.mono _, SC.mono _, SC.mono _, SC.mono _, SC.mono _, SC.mono _, trivial⟩ ?_ ?_
   ·intro kq hkq a wx hB hp hs
    have hBo : Below wo.heap.size wo wx := dB hW_6 hB
    have hcase : kq = 0 ∨ kq = 1 ∨ kq = 2 ∨ kq = 3 ∨ kq = 4 ∨ kq = 5 ∨ kq = 6 ∨ kq = 7 ∨ kq = 8 ∨ kq = 9 := by omega
    rcases hcase with rfl | rfl | rfl | rfl | rfl | rfl | rfl | rfl | rfl | rfl
    ·clear hp
     exact ⟨_, rfl, op_mv (s := SC _) rfl ((hs 0 rfl).trans ev0)⟩
    ·clear hp
     exact ⟨_, rfl, op_mv (s := SC _) rfl ((hs 5 rfl).trans ev5)⟩
    ·obtain ⟨k0, k3, -⟩ := hp
     have e0 : a.eval (.tmp 17) = .slice (some ⟨g1, 0, none⟩) n c1 := k0
     simp [Act.eval] at e0
     have e1 : a.eval (.tmp 18) = .int .i64 (i : Int) := k3
     simp [Act.eval] at e1
     exact ⟨_, rfl, Does.val (by simp [execOp, Act.eval, e0, e1, go_sem, hi3, hi4]) rfl⟩
    ·obtain ⟨k0, -⟩ := hp
     have e0 : a.eval (.tmp 19) = .pointer (some ⟨g1, i, none⟩) := k0
     simp [Act.eval] at e0
     exact ⟨_, rfl, Does.val (by simp [execOp, Act.eval, e0, go_sem, HC1.out wx hBo]) rfl⟩
    ·clear hp
     exact ⟨_, rfl, op_mv (s := SC _) rfl ((hs 1 rfl).trans ev1)⟩
    ·clear hp
     exact ⟨_, rfl, op_mv (s := SC _) rfl ((hs 5 rfl).trans ev5)⟩
    ·obtain ⟨k0, k3, -⟩ := hp
     have e0 : a.eval (.tmp 21) = .slice (some ⟨g2, 0, none⟩) n c2 := k0
     simp [Act.eval] at e0
     have e1 : a.eval (.tmp 22) = .int .i64 (i : Int) := k3
     simp [Act.eval] at e1
     exact ⟨_, rfl, Does.val (by simp [execOp, Act.eval, e0, e1, go_sem, hi3, hi4]) rfl⟩
    ·obtain ⟨k0, -⟩ := hp
     have e0 : a.eval (.tmp 23) = .pointer (some ⟨g2, i, none⟩) := k0
     simp [Act.eval] at e0
     exact ⟨_, rfl, Does.val (by simp [execOp, Act.eval, e0, go_sem, HC2.out wx hBo]) rfl⟩
    ·obtain ⟨k0, k3, -⟩ := hp
     exact ⟨_, rfl, Does.rc (f := 29) (call2 rfl (fun _ => by simp [go_sem]) k0 k3) (same_true (k6.out.below hBo) (k7.out.below hBo))⟩
    ·obtain ⟨k0, -⟩ := hp
     have e0 : a.eval (.tmp 25) = .bool true := k0
     simp [Act.eval] at e0
     exact ⟨_, rfl, Does.val (by simp [execOp, Act.eval, e0, go_sem]) rfl⟩
   ·intro val wx hB hsp hdis
    have hBo : Below wo.heap.size wo wx := dB hW_6 hB
    have e9 : val 9 = .bool false := hsp 9 (by omega)
    rw [← HF_.out]
    change wpList _ _ _ [] _ _
    simp only [puts_consT, puts_nilm, vals, List.map_cons, List.map_nil, Nat.zero_add, Nat.reduceAdd, e9, List.setIfInBounds_toArray, List.set_cons_succ, List.set_cons_zero]
    clear hsp hdis HF_ hsz_ hB hW_6 e9 ev0 ev1 ev5
    have ka := Lib.hid (Blw HB.out hBo)
    clear hBo HC1 HC2 k6 k7 HB
    go_wp2
    exact ⟨⟨i + 1, by omega, by go_num, ka⟩, by simp [intOf]; omega⟩
  ·have hid_ := decide_eq_false (show ¬ (i : Int) < (n : Int) by omega)
   have hi3 : ¬ (i : Int) < (n : Int) := by omega
   go_wp2
   go_ret
   exact ⟨rfl, HB.out⟩
theorem rend_ne {w : World} {b N M : Nat} {cs us vs : List Value} {sv hv : Value} (hx : Bx w b 31 cs) (h1 : w.ownsRow 0 33 1 sv N us) (h2 : w.ownsRow 0 78 2 hv M vs) :
  (∀ k, sv.ownBlock = some k → k ≠ b) ∧ (∀ k, hv.ownBlock = some k → k ≠ b) ∧ ∀ k, sv.ownBlock = some k → hv.ownBlock ≠ some k := by
 have key : ∀ {T n s : Nat} {v : Value} {xs : List Value}, w.ownsRow 0 T s v n xs → ∀ k, v.ownBlock = some k → ∃ cs : Array Value, w.heap[k]? = some (.cells cs T (0, 0)) := fun h k hk => by
  rcases h.2 with ⟨rfl, _⟩ | ⟨g, cap, cur, rfl, _, hg, _⟩
  ·simp [Value.ownBlock] at hk
  ·simp [Value.ownBlock] at hk
   subst hk
   exact ⟨_, hg⟩
 refine ⟨fun k hk e => ?_, fun k hk e => ?_, fun k hk e => ?_⟩
 ·subst e
  obtain ⟨c, hc⟩ := key h1 k hk
  unfold Bx at hx
  rw [hx] at hc
  injection hc with hc
  injection hc with _ e _
  exact absurd e (by decide)
 ·subst e
  obtain ⟨c, hc⟩ := key h2 k hk
  unfold Bx at hx
  rw [hx] at hc
  injection hc with hc
  injection hc with _ e _
  exact absurd e (by decide)
 ·obtain ⟨c, hc⟩ := key h1 k hk
  obtain ⟨d, hd⟩ := key h2 k e
  rw [hc] at hd
  injection hd with hd
  injection hd with _ e _
  exact absurd e (by decide)
theorem Bx.keptR {w w' : World} {row : Option Nat} {g T : Nat} {l : List Value} (h : Bx w g T l) (hg : w.grownBy w' row) (hne : some g ≠ row) : Bx w' g T l := (hg.block g h.lt hne).trans h
theorem own_keptR {B : Nat} {w w' : World} {row : Option Nat} {v : Value} {e s n : Nat} {xs : List Value} (h : w.ownsRow B e s v n xs) (hg : w.grownBy w' row) (hne : ∀ k, v.ownBlock = some k → some k ≠ row) : w'.ownsRow B e s v n xs := by
 have hl := h.lt
 refine ⟨h.1, ?_⟩
 rcases h.2 with h | ⟨g, cap, cur, rfl, hb, hgg, r⟩
 ·exact .inl h
 ·exact .inr ⟨g, cap, cur, rfl, hb, (hg.block g (hl g rfl).2 (hne g rfl)).trans hgg, r⟩
theorem own_n {B e s n m : Nat} {w : World} {v : Value} {xs : List Value} (h : w.ownsRow B e s v n xs) (k : n = m) : w.ownsRow B e s v m xs := k ▸ h
/-- What a call at the reference's end leaves. -/
def RTo (b : Nat) (own : List Nat) (R : Rn.E) (w w' : World) : Prop := ∃ own', REnd w' b own' R ∧ TT own w w' ∧ ∀ x ∈ own', x ∈ own ∨ w.heap.size ≤ x
set_option maxRecDepth 100000 in
theorem rsend_yes (b : Nat) (own : List Nat) (R : Rn.E) (x : Value) (l : List UInt8) (w : World) (h : REnd w b own R) (hbv : BV w x l) (h1 : l.length ≤ 65536) (h2 : (R.sent.length : Int) - R.acked < 1000) (h3 : 0 ≤ R.acked) (h4 : R.sent.length ≤ 1000000) (h5 : R.acked ≤ 1000000000) :
  Calls Try.prog 12 #[.pointer (some ⟨b, 0, none⟩), x] w fun e w' => e = .returned (.int .i64 0) ∧ RTo b own { R with sent := R.sent ++ [l] } w w' := by
 obtain ⟨sv, hv, us, vs, hx, hs, hus, hh, hvs, rfl⟩ := h
 obtain ⟨n1, n2, n3⟩ := rend_ne hx hs hh
 have HRV := Lib.hid (show RowV 0 w sv R.sent from ⟨us, hs, hus⟩)
 obtain ⟨N, hN⟩ : ∃ N, N = R.sent.length := ⟨_, rfl⟩
 rw [← hN] at hs h2 h4
 have HN := Lib.hid hN
 obtain ⟨As, cs, rfl, -⟩ := own_form hs
 have HBV := Lib.hid hbv
 obtain ⟨A, c, rfl, -⟩ := hbv
 obtain ⟨n, hn⟩ : ∃ n, n = l.length := ⟨_, rfl⟩
 rw [← hn] at HBV h1 ⊢
 have HS := Lib.hid hs; have HUS := Lib.hid hus; have HH := Lib.hid hh; have HVS := Lib.hid hvs; have HX := Lib.hid hx
 have hn1 : (n : Int) ≤ 65536 := by omega
 have hn2 : (N : Int) - R.acked < 1000 := by omega
 have hw1 : IntKind.i64.wrap ((N : Int) - R.acked) = (N : Int) - R.acked := by rw [IntKind.wrap_i64]; omega
 clear hs hus hh hvs hx hN hn
 go_enter Try.func12, Try.ntmps12
 go_wp2_with fail
 go_upto_region 1 with fail
 generalize hW_1 : w.drew = W_1
 refine gen_act ?_
 intro F_ hF_
 have ev0 : F_.eval (.tmp 0) = .pointer (some ⟨b, 0, none⟩) := by rw [← hF_]; rfl
 have ev1 : F_.eval (.tmp 1) = .slice A n c := by rw [← hF_]; rfl
 have hsz_ : ∀ d ∈ ([(5, []), (6, [0]), (7, [1]), (8, [2]), (9, [3]), (10, [4, 3]), (11, [5, 3]), (12, [6, 3]), (13, [7, 3]), (14, [3]), (15, [9, 3]), (16, [10, 3]), (17, [11, 3]), (18, [8, 12, 3]), (19, [13, 3]), (20, [3, 14])] : List (Nat × List Nat)).map (·.1), d < F_.tmps.size := by rw [← hF_]; simp
 have HF_ := Lib.hid hF_; clear hF_
 refine wp_flow_tabG true hW_1 16 [(5, []), (6, [0]), (7, [1]), (8, [2]), (9, [3]), (10, [4, 3]), (11, [5, 3]), (12, [6, 3]), (13, [7, 3]), (14, [3]), (15, [9, 3]), (16, [10, 3]), (17, [11, 3]), (18, [8, 12, 3]), (19, [13, 3]), (20, [3, 14])] [SC (.slice A n c), SC (.int .i64 ((n : Nat) : Int)), SC (.bool false), SC (.bool false), SC (.pointer (some ⟨b, 0, none⟩)), SC (.pointer (some ⟨b, 0, none⟩)), SC (.pointer (some ⟨b, 2, none⟩)), SC (.slice As N cs), SC (.int .i64 ((N : Nat) : Int)), SC (.pointer (some ⟨b, 0, none⟩)), SC (.pointer (some ⟨b, 0, none⟩)), SC (.pointer (some ⟨b, 3, none⟩)), SC (.int .i64 R.acked), SC (.int .i64 ((N : Int) - R.acked)), SC (.bool false), SC (.bool false)] [false, false, false, false, false, false, false, false, false, false, false, false, false, false, false, false] (by kernel_rfl) (by kernel_rfl) (by kernel_rfl) (by kernel_rfl) (by kernel_rfl) hsz_ ⟨SC.mono _, SC.mono _, SC.mono _, SC.mono _, SC.mono _, SC.mono _, SC.mono _, SC.mono _, SC.mono _, SC.mono _, SC.mono _, SC.mono _, SC.mono _, SC.mono _, SC.mono _, SC.mono _, trivial⟩ ?_ ?_
 ·intro kq hkq a wx hB hp hs
  have hBo : Below w.heap.size w wx := dB hW_1 hB
  have hcase : kq = 0 ∨ kq = 1 ∨ kq = 2 ∨ kq = 3 ∨ kq = 4 ∨ kq = 5 ∨ kq = 6 ∨ kq = 7 ∨ kq = 8 ∨ kq = 9 ∨ kq = 10 ∨ kq = 11 ∨ kq = 12 ∨ kq = 13 ∨ kq = 14 ∨ kq = 15 := by omega
  rcases hcase with rfl | rfl | rfl | rfl | rfl | rfl | rfl | rfl | rfl | rfl | rfl | rfl | rfl | rfl | rfl | rfl
  ·clear hp
   exact ⟨_, rfl, .inl ⟨wanted_none rfl, op_mv (s := SC _) rfl ((hs 1 rfl).trans ev1)⟩⟩
  ·obtain ⟨k0, -⟩ := hp
   have e0 : a.eval (.tmp 5) = .slice A n c := k0
   simp [Act.eval] at e0
   exact ⟨_, rfl, .inl ⟨wanted_none rfl, Does.val (by simp [execOp, Act.eval, e0, go_sem]) rfl⟩⟩
  ·obtain ⟨k0, -⟩ := hp
   have e0 : a.eval (.tmp 6) = .int .i64 ((n : Nat) : Int) := k0
   simp [Act.eval] at e0
   exact ⟨_, rfl, .inl ⟨wanted_none rfl, Does.val (by simp [execOp, Act.eval, e0, go_sem, hn1]) rfl⟩⟩
  ·obtain ⟨k0, -⟩ := hp
   exact ⟨_, rfl, .inl ⟨wanted_none rfl, op_mv (s := SC _) rfl k0⟩⟩
  ·obtain ⟨k0, -⟩ := hp
   have hgd : a.eval (.tmp 8) = .bool false := k0
   exact ⟨_, rfl, .inl ⟨(wanted_of rfl rfl hgd).trans rfl, op_mv (s := SC _) rfl ((hs 0 rfl).trans ev0)⟩⟩
  ·obtain ⟨k0, k1, -⟩ := hp
   have hgd : a.eval (.tmp 8) = .bool false := k1
   exact ⟨_, rfl, .inl ⟨(wanted_of rfl rfl hgd).trans rfl, op_nil rfl k0⟩⟩
  ·obtain ⟨k0, k1, -⟩ := hp
   have hgd : a.eval (.tmp 8) = .bool false := k1
   exact ⟨_, rfl, .inl ⟨(wanted_of rfl rfl hgd).trans rfl, fa_sherdref37_End_2 rfl k0⟩⟩
  ·obtain ⟨k0, k1, -⟩ := hp
   have hgd : a.eval (.tmp 8) = .bool false := k1
   exact ⟨_, rfl, .inl ⟨(wanted_of rfl rfl hgd).trans rfl, ld_____uint8 rfl k0 (HX.out.below hBo) rfl⟩⟩
  ·obtain ⟨k0, k1, -⟩ := hp
   have hgd : a.eval (.tmp 8) = .bool false := k1
   have e0 : a.eval (.tmp 12) = .slice As N cs := k0
   simp [Act.eval] at e0
   exact ⟨_, rfl, .inl ⟨(wanted_of rfl rfl hgd).trans rfl, Does.val (by simp [execOp, Act.eval, e0, go_sem]) rfl⟩⟩
  ·obtain ⟨k0, -⟩ := hp
   have hgd : a.eval (.tmp 8) = .bool false := k0
   exact ⟨_, rfl, .inl ⟨(wanted_of rfl rfl hgd).trans rfl, op_mv (s := SC _) rfl ((hs 0 rfl).trans ev0)⟩⟩
  ·obtain ⟨k0, k1, -⟩ := hp
   have hgd : a.eval (.tmp 8) = .bool false := k1
   exact ⟨_, rfl, .inl ⟨(wanted_of rfl rfl hgd).trans rfl, op_nil rfl k0⟩⟩
  ·obtain ⟨k0, k1, -⟩ := hp
   have hgd : a.eval (.tmp 8) = .bool false := k1
   exact ⟨_, rfl, .inl ⟨(wanted_of rfl rfl hgd).trans rfl, fa_sherdref37_End_3 rfl k0⟩⟩
  ·obtain ⟨k0, k1, -⟩ := hp
   have hgd : a.eval (.tmp 8) = .bool false := k1
   exact ⟨_, rfl, .inl ⟨(wanted_of rfl rfl hgd).trans rfl, ld_int rfl k0 (HX.out.below hBo) rfl⟩⟩
  ·obtain ⟨k0, k1, k2, -⟩ := hp
   have hgd : a.eval (.tmp 8) = .bool false := k2
   have e0 : a.eval (.tmp 13) = .int .i64 ((N : Nat) : Int) := k0
   simp [Act.eval] at e0
   have e1 : a.eval (.tmp 17) = .int .i64 R.acked := k1
   simp [Act.eval] at e1
   exact ⟨_, rfl, .inl ⟨(wanted_of rfl rfl hgd).trans rfl, Does.val (by simp [execOp, Act.eval, e0, e1, go_sem, hw1]) rfl⟩⟩
  ·obtain ⟨k0, k1, -⟩ := hp
   have hgd : a.eval (.tmp 8) = .bool false := k1
   have e0 : a.eval (.tmp 18) = .int .i64 ((N : Int) - R.acked) := k0
   simp [Act.eval] at e0
   exact ⟨_, rfl, .inl ⟨(wanted_of rfl rfl hgd).trans rfl, Does.val (by simp [execOp, Act.eval, e0, go_sem, hn2]) rfl⟩⟩
  ·obtain ⟨k0, k1, -⟩ := hp
   have e0 : a.eval (.tmp 8) = .bool false := k0
   simp [Act.eval] at e0
   have e1 : a.eval (.tmp 19) = .bool false := k1
   simp [Act.eval] at e1
   exact ⟨_, rfl, .inl ⟨wanted_none rfl, Does.val (by simp [execOp, Act.eval, e0, e1, go_sem]) rfl⟩⟩
 ·intro val wx hB hsp hdis
  have hBo : Below w.heap.size w wx := dB hW_1 hB
  have e15 : val 15 = .bool false := hsp 15 (by omega)
  rw [← HF_.out]
  change wpList _ _ _ [] _ _
  simp only [puts_consT, puts_nilm, vals, List.map_cons, List.map_nil, Nat.zero_add, Nat.reduceAdd, e15, List.setIfInBounds_toArray, List.set_cons_succ, List.set_cons_zero]
  clear hsp hdis HF_ hsz_ hB hW_1 e15 ev0 ev1
  obtain ⟨w1, rfl⟩ : ∃ w1 : World, w1 = wx := ⟨_, rfl⟩
  have HX1 := Lib.hid (HX.out.below hBo)
  have HS1 := Lib.hid (own_below HS.out hBo); have HRV1 := Lib.hid (HRV.out.below hBo); have HH1 := Lib.hid (own_below HH.out hBo); have HVS1 := Lib.hid (HVS.out.kb (.of hBo)); have HBV1 := Lib.hid (HBV.out.below hBo)
  have HBo := Lib.hid hBo
  obtain ⟨c0, c1, c2, c3, c4, c5, c6, c7, z, l0⟩ := HX1.out.f8
  clear hBo HX HS HRV HUS HH HVS HBV
  go_wp2_with (at_builtin; (refine wpList_appR rfl (.tmp 25) (.tmp 27) rfl rfl rfl (g := w1.heap.size) (base := 0) (Nat.zero_le _) (HRV1.out.below ((Below.refl _ _).alloc (Nat.le_refl _) _)) (Bx.at_ rfl) (HBV1.out.below ((Below.refl _ _).alloc (Nat.le_refl _) _)) (by have := HN.out; omega) ?_))
  intro v' w2 ⟨us', q1, q1v⟩ q2 q3 q4
  rw [show (R.sent ++ [l]).length = N + 1 by rw [List.length_append, HN.out]; rfl] at q1
  obtain ⟨Av, cv, rfl, -⟩ := own_form q1
  have HX2 := Lib.hid (Bx.keptR (HX1.out.alloc (.cells #[.slice A n c] 33)) q2 (fun e => n1 b e.symm rfl))
  have HH2 := Lib.hid (own_keptR (HH1.out.alloc (.cells #[.slice A n c] 33)) q2 (fun k hk e => n3 k e.symm hk))
  have HVS2 := Lib.hid (HVS1.out.kb ((KB.of ((Below.refl _ w1).alloc (Nat.le_refl _) _)).trans q3))
  have T2 := Lib.hid (show TT (b :: (Value.slice As N cs).ownBlock.toList ++ hv.ownBlock.toList) w w2 from ⟨(Tc.of (HBo.out.alloc HBo.out.size _)).grown q2 (fun k hk => .inl (by simp [hk])), (KB.of (HBo.out.alloc HBo.out.size _)).trans q3⟩)
  have HQ1 := Lib.hid q1; have HQV := Lib.hid q1v
  have HN2 := Lib.hid (show ∀ k, (Value.slice Av (N + 1) cv).ownBlock = some k → k ≠ b from fun k hk => (rend_ne HX2.out q1 HH2.out).1 k hk)
  have HQ4 := Lib.hid (show ∀ k, (Value.slice Av (N + 1) cv).ownBlock = some k → (Value.slice As N cs).ownBlock = some k ∨ w.heap.size ≤ k from fun k hk => by
   rcases q4 k hk with h | h
   ·exact .inl h
   ·exact .inr (by have h0 := HBo.out.size; have h1 : w1.heap.size + 1 ≤ k := h; omega))
  obtain ⟨d0, d1, d2, d3, d4, d5, d6, d7, z2, l2⟩ := HX2.out.f8
  clear q1 q1v q2 q3 q4 c0 c1 c2 c3 c4 c5 c6 c7 z l0 HX1 HS1 HRV1 HH1 HVS1 HBV1 HBo
  go_wp2
  go_ret
  refine ⟨rfl, _, ⟨.slice Av (N + 1) cv, hv, us', vs, HX2.out.setAs rfl, own_n (row_set HQ1.out HN2.out _) (show N + 1 = (R.sent ++ [l]).length by rw [List.length_append, HN.out]; rfl), HQV.out.kb ((KB.refl _).set_ HX2.out (by decide) _), row_set HH2.out n2 _, HVS2.out.kb ((KB.refl _).set_ HX2.out (by decide) _), rfl⟩, ⟨T2.out.1.set_ (.inl (by simp)) _, T2.out.2.set_ HX2.out (by decide) _⟩, fun x hx => ?_⟩
  simp only [List.cons_append, List.mem_cons, List.mem_append, Option.mem_toList] at hx ⊢
  rcases hx with hx | hx | hx
  ·exact .inl (.inl hx)
  ·rcases HQ4.out x hx with h | h
   ·exact .inl (.inr (.inl h))
   ·exact .inr h
  ·exact .inl (.inr (.inr hx))
end Go.Proofs.Ytgdibcgphjmofaa
namespace Go.Proofs.Ytgdibcgphjmofaa
set_option maxHeartbeats 1000000
open Go.RowKit
open Go.Maps
set_option linter.unusedVariables false
theorem pk_bv {w : World} {A : Option Addr} {n c : Nat} {l : List UInt8} (p q : Int) (h : BV w (.slice A n c) l) (hp : W.Is64 p) (hq : W.Is64 q) (hl : l.length ≤ 100000) : Calls Try.prog 18 #[.agg #[.int .i64 p, .int .i64 q, .slice A n c]] w (RB_ (K.pk p q l) w) := by
 obtain ⟨rfl, h2, h3, h4⟩ := h.parts
 exact rpk_any p q A c _ l w h4 (Nat.le_refl _) hp hq hl
/-- What holds of the reference's end. -/
structure Rn.ok (R : Rn.E) : Prop where
 k : K.ok R.k
 a : R.acked ≤ R.sent.length
 s : R.sent.length ≤ 1000000
/-- A store into its box, but for its rows. -/
theorem REnd.set_ {w : World} {b : Nat} {own : List Nat} {R : Rn.E} (h : REnd w b own R) (i : Nat) (x : Value) (R' : Rn.E) (hc : ∀ sv hv, (Rn.cells R sv hv).set i x = Rn.cells R' sv hv) (h1 : R'.sent = R.sent) (h2 : R'.held = R.held) :
  REnd (w.setCell ⟨b, i, none⟩ x) b own R' ∧ TT own w (w.setCell ⟨b, i, none⟩ x) := by
 obtain ⟨sv, hv, us, vs, hx, hs, hus, hh, hvs, rfl⟩ := h
 obtain ⟨n1, n2, n3⟩ := rend_ne hx hs hh
 have hkb : KB w (w.setCell ⟨b, i, none⟩ x) := (KB.refl w).set_ hx (by decide) _
 refine ⟨⟨sv, hv, us, vs, (hc sv hv) ▸ hx.set_ i x, ?_, ?_, ?_, ?_, rfl⟩, (Tc.refl _ w).set_ (.inl (by simp)) _, hkb⟩
 ·rw [h1]; exact row_set hs n1 _
 ·rw [h1]; exact hus.kb hkb
 ·rw [h2]; exact row_set hh n2 _
 ·rw [h2]; exact hvs.kb hkb
def RROut (ls : List (List UInt8)) (b : Nat) (own : List Nat) (R : Rn.E) (w : World) (e : Ending) (w' : World) : Prop := ∃ v, e = .returned v ∧ RowV w.heap.size w' v ls ∧ REnd w' b own R ∧ TT own w w'
theorem rout_end {b : Nat} {own : List Nat} {R : Rn.E} {w wx : World} {v : Value} {ls : List (List UInt8)} (h : REnd w b own R) (hb : Below w.heap.size w wx) (hr : RowV w.heap.size wx v ls) : RROut ls b own { R with owing := false } w (.returned v) (wx.setCell ⟨b, 6, none⟩ (.bool false)) := by
 have h0 := h.below hb
 obtain ⟨h1, t1⟩ := h0.set_ 6 (.bool false) { R with owing := false } (fun _ _ => rfl) rfl rfl
 obtain ⟨sv, hv, us, vs, hx0, _⟩ := h
 have hbl : b < w.heap.size := hx0.lt
 obtain ⟨sv, hv, us, vs, hx, _⟩ := h0
 exact ⟨v, rfl, hr.set_ hbl hx (by decide) _, h1, (TT.rel own).trans ⟨Tc.of hb, KB.of hb⟩ t1⟩
theorem Rn.out_f {win key : Int} {sent : List (List UInt8)} {got : Int} {held : List (Int × List UInt8)} {owing : Bool} {forged : Int} {a0 k : Nat} {l : List UInt8} (h : sent[a0 + k]? = some l) :
  K.outF (Rn.E.k ⟨win, key, sent, (a0 : Int), got, held, owing, forged⟩) k = K.sealed key (K.pk (((a0 + k : Nat) : Int) + 1) got l) := by
 unfold K.outF Rn.E.k
 simp only [Int.toNat_natCast, List.getD_eq_getElem?_getD, List.getElem?_drop, h, Option.getD_some, Int.natCast_add]
set_option maxRecDepth 100000 in
theorem rout_any (b : Nat) (own : List Nat) (R : Rn.E) (w : World) (h : REnd w b own R) (ok : Rn.ok R) :
  Calls Try.prog 14 #[.pointer (some ⟨b, 0, none⟩)] w (RROut (K.out R.k) b own { R with owing := false } w) := by
 obtain ⟨win, key, sent, acked, got, held, owing, forged⟩ := R
 have HE := Lib.hid h
 have HNONE := Lib.hid (fun h1 h2 => K.out_none (S := Rn.E.k ⟨win, key, sent, acked, got, held, owing, forged⟩) (N := (sent.drop acked.toNat).length) rfl h1 h2)
 have HSOME := Lib.hid (fun k h1 h2 => K.out_some (S := Rn.E.k ⟨win, key, sent, acked, got, held, owing, forged⟩) (N := (sent.drop acked.toNat).length) (k := k) rfl h1 h2)
 obtain ⟨⟨w1, w2, a1, a2, d1, d2, f1, f2, hn, hl, hcn, hkk⟩, hal, hsl⟩ := ok
 simp only [Rn.E.k] at w1 w2 a1 a2 d1 d2 f1 f2 hn hl hcn hkk hal hsl
 obtain ⟨a0, rfl⟩ : ∃ a0 : Nat, acked = (a0 : Int) := ⟨acked.toNat, by omega⟩
 obtain ⟨S, hS⟩ : ∃ S, S = Rn.E.k ⟨win, key, sent, (a0 : Int), got, held, owing, forged⟩ := ⟨_, rfl⟩
 have HS := Lib.hid hS
 rw [← hS] at HNONE HSOME ⊢
 obtain ⟨sv, hv, us, vs, hx, hs, hus, hh, hvs, rfl⟩ := h
 unfold Rn.cells at hx
 simp only at hx hs hus
 obtain ⟨N, hN⟩ : ∃ N, N = sent.length := ⟨_, rfl⟩
 rw [← hN] at hs hsl hal
 have HN := Lib.hid hN
 obtain ⟨As, cs, rfl, hcs0, hcs1, -⟩ := own_form hs
 obtain ⟨K0, hK0⟩ : ∃ K0, K0 = min (sent.drop (a0 : Int).toNat).length win.toNat := ⟨_, rfl⟩
 have HK0_ := Lib.hid (show K0 = min (sent.drop (a0 : Int).toNat).length S.win.toNat by rw [hK0, hS]; rfl)
 replace hK0 : K0 = min (N - a0) win.toNat := by rw [hK0, List.length_drop, ← hN]; rfl
 have HK9 := Lib.hid hK0; clear hK0
 have hw0 : IntKind.i64.wrap ((a0 : Int) + win) = (a0 : Int) + win := by rw [IntKind.wrap_i64]; omega
 have hal0 : a0 ≤ N := by omega
 have HO := Lib.hid hs; have HV := Lib.hid hus; have HX0 := Lib.hid hx
 have HL := Lib.hid hl; have HKY := Lib.hid hkk; have HG64 := Lib.hid (show W.Is64 got by unfold W.Is64; omega)
 obtain ⟨c0, c1, c2, c3', c4, c5, c6, c7, z, l0⟩ := HX0.out.f8
 clear hs hus hh hvs hx hl hkk hS hN hcn hn hal
 go_enter Try.func14, Try.ntmps14
 go_wp2_with fail
 clear c0 c1 c2 c3' c4 c5 c6 c7 z l0
 go_loopw [4, 3] (fun s4 s3 wr => ∃ (k i : Nat) (us : List Value), k ≤ K0 ∧ Hid (i = a0 + k) ∧ i ≤ 1000000 ∧ s4 = .int .i64 (i : Int) ∧ Hid (wr.ownsRow w.heap.size 33 1 s3 k us) ∧ Hid (Vs wr us (K.outs S k)) ∧ Hid (Below w.heap.size w wr)) (fun s4 _ _ => (a0 + K0 - (intOf s4).toNat))
 case atStart => exact ⟨0, a0, [], by omega, Lib.hid (Nat.add_zero _).symm, by omega, rfl, Lib.hid (World.ownsRow_nil _ _ _ _), Lib.hid (Vs.nil _), Lib.hid (Below.refl _ _)⟩
 case round =>
  obtain ⟨k, i, us1, hk, HIK, hib, rfl, HU, HVU, HB⟩ := hrel
  obtain ⟨wo, rfl⟩ : ∃ wo : World, wo = wr := ⟨_, rfl⟩
  obtain ⟨A3, c3, rfl, kc, hm3, -⟩ := own_form HU.out
  unfold maxLen at hm3
  have hge := HB.out.size
  have hxr := HX0.out.below HB.out
  by_cases hlt : k < K0
  ·have hiN : (i : Int) < (N : Int) := by have := HIK.out; have := HK9.out; omega
   have ka : (i : Int) < (a0 : Int) + win := by have := HIK.out; have := HK9.out; omega
   have hi4 : (0 : Int) ≤ (i : Int) := by omega
   have hib2 : i + 1 ≤ 1000000 := by omega
   go_upto_region 3 with fail
   generalize hW_3 : wo.drew = W_3
   refine gen_act ?_
   intro F_ hF_
   have ev0 : F_.eval (.tmp 0) = .pointer (some ⟨b, 0, none⟩) := by rw [← hF_]; rfl
   have ev4 : F_.eval (.tmp 4) = .int .i64 (i : Int) := by rw [← hF_]; rfl
   have hsz_ : ∀ d ∈ ([(9, []), (10, []), (11, [1]), (12, [2]), (13, [3]), (14, [4]), (15, [0, 5]), (16, [6]), (17, [7]), (18, [7]), (19, [9, 7]), (20, [10, 7]), (21, [11, 7]), (22, [7]), (23, [13, 7]), (24, [14, 7]), (25, [15, 7]), (26, [12, 16, 7])] : List (Nat × List Nat)).map (·.1), d < F_.tmps.size := by rw [← hF_]; simp
   have HF_ := Lib.hid hF_; clear hF_
   refine wp_flow_tabG true hW_3 18 [(9, []), (10, []), (11, [1]), (12, [2]), (13, [3]), (14, [4]), (15, [0, 5]), (16, [6]), (17, [7]), (18, [7]), (19, [9, 7]), (20, [10, 7]), (21, [11, 7]), (22, [7]), (23, [13, 7]), (24, [14, 7]), (25, [15, 7]), (26, [12, 16, 7])] [SC (.int .i64 (i : Int)), SC (.pointer (some ⟨b, 0, none⟩)), SC (.pointer (some ⟨b, 0, none⟩)), SC (.pointer (some ⟨b, 2, none⟩)), SC (.slice As N cs), SC (.int .i64 ((N : Nat) : Int)), SC (.bool true), SC (.bool true), SC (.int .i64 (i : Int)), SC (.pointer (some ⟨b, 0, none⟩)), SC (.pointer (some ⟨b, 0, none⟩)), SC (.pointer (some ⟨b, 3, none⟩)), SC (.int .i64 (a0 : Int)), SC (.pointer (some ⟨b, 0, none⟩)), SC (.pointer (some ⟨b, 0, none⟩)), SC (.pointer (some ⟨b, 0, none⟩)), SC (.int .i64 win), SC (.int .i64 ((a0 : Int) + win))] [false, false, false, false, false, false, false, false, false, false, false, false, false, false, false, false, false, false] (by kernel_rfl) (by kernel_rfl) (by kernel_rfl) (by kernel_rfl) (by kernel_rfl) hsz_ ⟨SC.mono _, SC.mono _, SC.mono _, SC.mono _, SC.mono _, SC.mono _, SC.mono _, SC.mono _, SC.mono _, SC.mono _, SC.mono _, SC.mono _, SC.mono _, SC.mono _, SC.mono _, SC.mono _, SC.mono _, SC.mono _, trivial⟩ ?_ ?_
   ·intro kq hkq a wx hB hp hs
    have hBo : Below wo.heap.size wo wx := dB hW_3 hB
    have hcase : kq = 0 ∨ kq = 1 ∨ kq = 2 ∨ kq = 3 ∨ kq = 4 ∨ kq = 5 ∨ kq = 6 ∨ kq = 7 ∨ kq = 8 ∨ kq = 9 ∨ kq = 10 ∨ kq = 11 ∨ kq = 12 ∨ kq = 13 ∨ kq = 14 ∨ kq = 15 ∨ kq = 16 ∨ kq = 17 := by omega
    rcases hcase with rfl | rfl | rfl | rfl | rfl | rfl | rfl | rfl | rfl | rfl | rfl | rfl | rfl | rfl | rfl | rfl | rfl | rfl
    ·clear hp
     exact ⟨_, rfl, .inl ⟨wanted_none rfl, op_mv (s := SC _) rfl ((hs 4 rfl).trans ev4)⟩⟩
    ·clear hp
     exact ⟨_, rfl, .inl ⟨wanted_none rfl, op_mv (s := SC _) rfl ((hs 0 rfl).trans ev0)⟩⟩
    ·obtain ⟨k0, -⟩ := hp
     exact ⟨_, rfl, .inl ⟨wanted_none rfl, op_nil rfl k0⟩⟩
    ·obtain ⟨k0, -⟩ := hp
     exact ⟨_, rfl, .inl ⟨wanted_none rfl, fa_sherdref37_End_2 rfl k0⟩⟩
    ·obtain ⟨k0, -⟩ := hp
     exact ⟨_, rfl, .inl ⟨wanted_none rfl, ld_____uint8 rfl k0 (hxr.below hBo) rfl⟩⟩
    ·obtain ⟨k0, -⟩ := hp
     have e0 : a.eval (.tmp 13) = .slice As N cs := k0
     simp [Act.eval] at e0
     exact ⟨_, rfl, .inl ⟨wanted_none rfl, Does.val (by simp [execOp, Act.eval, e0, go_sem]) rfl⟩⟩
    ·obtain ⟨k0, k2, -⟩ := hp
     have e0 : a.eval (.tmp 9) = .int .i64 (i : Int) := k0
     simp [Act.eval] at e0
     have e1 : a.eval (.tmp 14) = .int .i64 ((N : Nat) : Int) := k2
     simp [Act.eval] at e1
     exact ⟨_, rfl, .inl ⟨wanted_none rfl, Does.val (by simp [execOp, Act.eval, e0, e1, go_sem, hiN]) rfl⟩⟩
    ·obtain ⟨k0, -⟩ := hp
     exact ⟨_, rfl, .inl ⟨wanted_none rfl, op_mv (s := SC _) rfl k0⟩⟩
    ·obtain ⟨k0, -⟩ := hp
     have hgd : a.eval (.tmp 16) = .bool true := k0
     exact ⟨_, rfl, .inl ⟨(wanted_of rfl rfl hgd).trans rfl, op_mv (s := SC _) rfl ((hs 4 rfl).trans ev4)⟩⟩
    ·obtain ⟨k0, -⟩ := hp
     have hgd : a.eval (.tmp 16) = .bool true := k0
     exact ⟨_, rfl, .inl ⟨(wanted_of rfl rfl hgd).trans rfl, op_mv (s := SC _) rfl ((hs 0 rfl).trans ev0)⟩⟩
    ·obtain ⟨k0, k2, -⟩ := hp
     have hgd : a.eval (.tmp 16) = .bool true := k2
     exact ⟨_, rfl, .inl ⟨(wanted_of rfl rfl hgd).trans rfl, op_nil rfl k0⟩⟩
    ·obtain ⟨k0, k2, -⟩ := hp
     have hgd : a.eval (.tmp 16) = .bool true := k2
     exact ⟨_, rfl, .inl ⟨(wanted_of rfl rfl hgd).trans rfl, fa_sherdref37_End_3 rfl k0⟩⟩
    ·obtain ⟨k0, k2, -⟩ := hp
     have hgd : a.eval (.tmp 16) = .bool true := k2
     exact ⟨_, rfl, .inl ⟨(wanted_of rfl rfl hgd).trans rfl, ld_int rfl k0 (hxr.below hBo) rfl⟩⟩
    ·obtain ⟨k0, -⟩ := hp
     have hgd : a.eval (.tmp 16) = .bool true := k0
     exact ⟨_, rfl, .inl ⟨(wanted_of rfl rfl hgd).trans rfl, op_mv (s := SC _) rfl ((hs 0 rfl).trans ev0)⟩⟩
    ·obtain ⟨k0, k2, -⟩ := hp
     have hgd : a.eval (.tmp 16) = .bool true := k2
     exact ⟨_, rfl, .inl ⟨(wanted_of rfl rfl hgd).trans rfl, op_nil rfl k0⟩⟩
    ·obtain ⟨k0, k2, -⟩ := hp
     have hgd : a.eval (.tmp 16) = .bool true := k2
     exact ⟨_, rfl, .inl ⟨(wanted_of rfl rfl hgd).trans rfl, fa_sherdref37_End_0 rfl k0⟩⟩
    ·obtain ⟨k0, k2, -⟩ := hp
     have hgd : a.eval (.tmp 16) = .bool true := k2
     exact ⟨_, rfl, .inl ⟨(wanted_of rfl rfl hgd).trans rfl, ld_int rfl k0 (hxr.below hBo) rfl⟩⟩
    ·obtain ⟨k0, k2, k5, -⟩ := hp
     have hgd : a.eval (.tmp 16) = .bool true := k5
     have e0 : a.eval (.tmp 21) = .int .i64 (a0 : Int) := k0
     simp [Act.eval] at e0
     have e1 : a.eval (.tmp 25) = .int .i64 win := k2
     simp [Act.eval] at e1
     exact ⟨_, rfl, .inl ⟨(wanted_of rfl rfl hgd).trans rfl, Does.val (by simp [execOp, Act.eval, e0, e1, go_sem, hw0]) rfl⟩⟩
   ·intro val wx hB hsp hdis
    have hBo : Below wo.heap.size wo wx := dB hW_3 hB
    have e7 : val 7 = .bool true := hsp 7 (by omega)
    have e8 : val 8 = .int .i64 (i : Int) := hsp 8 (by omega)
    have e17 : val 17 = .int .i64 ((a0 : Int) + win) := hsp 17 (by omega)
    rw [← HF_.out]
    change wpList _ _ _ [_, _] _ _
    simp only [puts_consT, puts_nilm, vals, List.map_cons, List.map_nil, Nat.zero_add, Nat.reduceAdd, e7, e8, e17, List.setIfInBounds_toArray, List.set_cons_succ, List.set_cons_zero]
    clear hsp hdis HF_ hsz_ hB hW_3 e7 e8 e17 ev0 ev4
    obtain ⟨w4, rfl⟩ : ∃ w4 : World, w4 = wx := ⟨_, rfl⟩
    have HU4 := Lib.hid (own_below HU.out hBo); have HVU4 := Lib.hid (HVU.out.kb (.of hBo)); have k3 := Lib.hid (Blw HB.out hBo)
    have HX4 := Lib.hid (HX0.out.below k3.out)
    clear hBo hxr HU HVU HB
    obtain ⟨g, k1, hsl2, -⟩ := own_pos HO.out (by omega)
    injection hsl2 with hA _ hk01
    subst hA
    have hvl : us.length = N := HO.out.1.trans (Nat.mul_one _)
    obtain ⟨u5, hu5⟩ : ∃ u, us[i]? = some u := ⟨us[i]'(by omega), List.getElem?_eq_getElem (by omega)⟩
    obtain ⟨l5, hl5⟩ : ∃ l, sent[i]? = some l := ⟨sent[i]'(by have := HN.out; omega), List.getElem?_eq_getElem _⟩
    have HLE := Lib.hid (show l5.length ≤ 65536 from HL.out l5 (by
     have := HIK.out
     rw [List.mem_iff_getElem?]
     exact ⟨k, by rw [List.getElem?_drop, Int.toNat_natCast, ← this]; exact hl5⟩))
    have hbv5 := HV.out.2 i u5 l5 hu5 hl5
    have HBV5 := Lib.hid hbv5
    obtain ⟨A5, c5, rfl, -⟩ := hbv5
    have HC5 := Lib.hid (fun (wx : World) (hb : Below w.heap.size w wx) => show wx.cell? ⟨g, i, none⟩ = some (.slice A5 l5.length c5) from (hb.cell (p := ⟨g, i, none⟩) ((HO.out.lt g rfl)).2).trans (by
     have h0 := own_cells HO.out i _ hu5
     rw [Addr.add_lit, Nat.zero_add] at h0
     exact h0))
    have HP := Lib.hid (fun (wx : World) (hb : Below w.heap.size w wx) => (pk_bv ((i : Int) + 1) got (HBV5.out.below hb) (by unfold W.Is64; omega) HG64.out (by have := HLE.out; omega)).mono fun _ _ h => h.bv)
    have HF := Lib.hid (show K.outF S k = K.sealed key (K.pk ((i : Int) + 1) got l5) by rw [HS.out, HIK.out]; exact Rn.out_f (HIK.out ▸ hl5))
    have hw2 : IntKind.i64.wrap ((i : Int) + 1) = (i : Int) + 1 := by rw [IntKind.wrap_i64]; omega
    clear hu5 hl5
    obtain ⟨n5, hn5⟩ : ∃ n, n = l5.length := ⟨_, rfl⟩
    rw [← hn5] at HC5 HP HBV5
    clear hn5
    go_wp2_with fail
    go_upto_region 5 with fail
    generalize hW_5 : w4.drew = W_5
    refine gen_act ?_
    intro F_ hF_
    have ev0 : F_.eval (.tmp 0) = .pointer (some ⟨b, 0, none⟩) := by rw [← hF_]; rfl
    have ev3 : F_.eval (.tmp 3) = .slice A3 k c3 := by rw [← hF_]; rfl
    have ev4 : F_.eval (.tmp 4) = .int .i64 (i : Int) := by rw [← hF_]; rfl
    have hsz_ : ∀ d ∈ ([(31, []), (32, []), (33, [1]), (34, [2]), (35, [3]), (36, []), (37, [5]), (38, []), (39, [7]), (40, [8]), (41, [9]), (42, []), (43, [11]), (44, [12]), (45, [13]), (46, []), (47, [14, 15]), (48, [16]), (49, [6, 10, 17]), (50, [18]), (51, [4, 19]), (52, [20])] : List (Nat × List Nat)).map (·.1), d < F_.tmps.size := by rw [← hF_]; simp
    have HF_ := Lib.hid hF_; clear hF_
    refine wp_flow_tab true hW_5 22 [(31, []), (32, []), (33, [1]), (34, [2]), (35, [3]), (36, []), (37, [5]), (38, []), (39, [7]), (40, [8]), (41, [9]), (42, []), (43, [11]), (44, [12]), (45, [13]), (46, []), (47, [14, 15]), (48, [16]), (49, [6, 10, 17]), (50, [18]), (51, [4, 19]), (52, [20])] [SC (.slice A3 k c3), SC (.pointer (some ⟨b, 0, none⟩)), SC (.pointer (some ⟨b, 0, none⟩)), SC (.pointer (some ⟨b, 1, none⟩)), SC (.int .u64 key), SC (.int .i64 (i : Int)), SC (.int .i64 ((i : Int) + 1)), SC (.pointer (some ⟨b, 0, none⟩)), SC (.pointer (some ⟨b, 0, none⟩)), SC (.pointer (some ⟨b, 4, none⟩)), SC (.int .i64 got), SC (.pointer (some ⟨b, 0, none⟩)), SC (.pointer (some ⟨b, 0, none⟩)), SC (.pointer (some ⟨b, 2, none⟩)), SC (.slice (some ⟨g, 0, none⟩) N cs), SC (.int .i64 (i : Int)), SC (.pointer (some ⟨g, i, none⟩)), SC (.slice A5 n5 c5), SC (.agg #[.int .i64 ((i : Int) + 1), .int .i64 got, .slice A5 n5 c5]), SY (K.pk ((i : Int) + 1) got l5), SY (K.sealed key (K.pk ((i : Int) + 1) got l5)), SOne w4.heap.size (K.sealed key (K.pk ((i : Int) + 1) got l5))] [false, false, false, false, false, false, false, false, false, false, false, false, false, false, false, false, false, false, false, false, false, false] (by kernel_rfl) (by kernel_rfl) (by kernel_rfl) (by kernel_rfl) (by kernel_rfl) hsz_ ⟨SC.mono _, SC.mono _, SC.mono _, SC.mono _, SC.mono _, SC.mono _, SC.mono _, SC.mono _, SC.mono _, SC.mono _, SC.mono _, SC.mono _, SC.mono _, SC.mono _, SC.mono _, SC.mono _, SC.mono _, SC.mono _, SC.mono _, SY.mono _, SY.mono _, SOne.mono _ _, trivial⟩ ?_ ?_
    ·intro kq hkq a wx hB hp hs
     have hBo : Below w4.heap.size w4 wx := dB hW_5 hB
     have hcase : kq = 0 ∨ kq = 1 ∨ kq = 2 ∨ kq = 3 ∨ kq = 4 ∨ kq = 5 ∨ kq = 6 ∨ kq = 7 ∨ kq = 8 ∨ kq = 9 ∨ kq = 10 ∨ kq = 11 ∨ kq = 12 ∨ kq = 13 ∨ kq = 14 ∨ kq = 15 ∨ kq = 16 ∨ kq = 17 ∨ kq = 18 ∨ kq = 19 ∨ kq = 20 ∨ kq = 21 := by omega
     rcases hcase with rfl | rfl | rfl | rfl | rfl | rfl | rfl | rfl | rfl | rfl | rfl | rfl | rfl | rfl | rfl | rfl | rfl | rfl | rfl | rfl | rfl | rfl
     ·clear hp
      exact ⟨_, rfl, op_mv (s := SC _) rfl ((hs 3 rfl).trans ev3)⟩
     ·clear hp
      exact ⟨_, rfl, op_mv (s := SC _) rfl ((hs 0 rfl).trans ev0)⟩
     ·obtain ⟨k0, -⟩ := hp
      exact ⟨_, rfl, op_nil rfl k0⟩
     ·obtain ⟨k0, -⟩ := hp
      exact ⟨_, rfl, fa_sherdref37_End_1 rfl k0⟩
     ·obtain ⟨k0, -⟩ := hp
      exact ⟨_, rfl, ld_uint64 rfl k0 (HX4.out.below hBo) rfl⟩
     ·clear hp
      exact ⟨_, rfl, op_mv (s := SC _) rfl ((hs 4 rfl).trans ev4)⟩
     ·obtain ⟨k0, -⟩ := hp
      have e0 : a.eval (.tmp 36) = .int .i64 (i : Int) := k0
      simp [Act.eval] at e0
      exact ⟨_, rfl, Does.val (by simp [execOp, Act.eval, e0, go_sem, hw2]) rfl⟩
     ·clear hp
      exact ⟨_, rfl, op_mv (s := SC _) rfl ((hs 0 rfl).trans ev0)⟩
     ·obtain ⟨k0, -⟩ := hp
      exact ⟨_, rfl, op_nil rfl k0⟩
     ·obtain ⟨k0, -⟩ := hp
      exact ⟨_, rfl, fa_sherdref37_End_4 rfl k0⟩
     ·obtain ⟨k0, -⟩ := hp
      exact ⟨_, rfl, ld_int rfl k0 (HX4.out.below hBo) rfl⟩
     ·clear hp
      exact ⟨_, rfl, op_mv (s := SC _) rfl ((hs 0 rfl).trans ev0)⟩
     ·obtain ⟨k0, -⟩ := hp
      exact ⟨_, rfl, op_nil rfl k0⟩
     ·obtain ⟨k0, -⟩ := hp
      exact ⟨_, rfl, fa_sherdref37_End_2 rfl k0⟩
     ·obtain ⟨k0, -⟩ := hp
      exact ⟨_, rfl, ld_____uint8 rfl k0 (HX4.out.below hBo) rfl⟩
     ·clear hp
      exact ⟨_, rfl, op_mv (s := SC _) rfl ((hs 4 rfl).trans ev4)⟩
     ·obtain ⟨k0, k2, -⟩ := hp
      have e0 : a.eval (.tmp 45) = .slice (some ⟨g, 0, none⟩) N cs := k0
      simp [Act.eval] at e0
      have e1 : a.eval (.tmp 46) = .int .i64 (i : Int) := k2
      simp [Act.eval] at e1
      exact ⟨_, rfl, Does.val (by simp [execOp, Act.eval, e0, e1, go_sem, hiN, hi4]) rfl⟩
     ·obtain ⟨k0, -⟩ := hp
      have e0 : a.eval (.tmp 47) = .pointer (some ⟨g, i, none⟩) := k0
      simp [Act.eval] at e0
      exact ⟨_, rfl, Does.val (by simp [execOp, Act.eval, e0, go_sem, HC5.out wx (Blw k3.out hBo)]) rfl⟩
     ·obtain ⟨k0, k2, k5, -⟩ := hp
      have e0 : a.eval (.tmp 37) = .int .i64 ((i : Int) + 1) := k0
      simp [Act.eval] at e0
      have e1 : a.eval (.tmp 41) = .int .i64 got := k2
      simp [Act.eval] at e1
      have e2 : a.eval (.tmp 48) = .slice A5 n5 c5 := k5
      simp [Act.eval] at e2
      exact ⟨_, rfl, Does.val (by simp [execOp, Act.eval, e0, e1, e2, go_sem]) rfl⟩
     ·obtain ⟨k0, -⟩ := hp
      exact ⟨_, rfl, Does.ry (f := 18) (call1 rfl (fun _ => by simp [go_sem]) k0) (HP.out wx (Blw k3.out hBo))⟩
     ·obtain ⟨k0, k2, -⟩ := hp
      obtain ⟨A9, c9, e9, k9, hm9, hr9, -⟩ := k2
      exact ⟨_, rfl, Does.ry (f := 17) (call2 rfl (fun _ => by simp [go_sem]) k0 e9) ((rseal_rd key A9 c9 _ _ wx HKY.out hr9 (Nat.le_refl _) k9 hm9 (by have := K.pk_len ((i : Int) + 1) got l5 HLE.out; omega)).mono fun _ _ h => h.bv)⟩
     ·obtain ⟨k0, -⟩ := hp
      exact ⟨_, rfl, op_one rfl k0 hBo.size⟩
    ·intro val wx hB hsp hdis
     have hBo : Below w4.heap.size w4 wx := dB hW_5 hB
     have e0 : val 0 = .slice A3 k c3 := hsp 0 (by omega)
     have h21 : (SOne w4.heap.size (K.sealed key (K.pk ((i : Int) + 1) got l5))) wx (val 21) := hsp 21 (by omega)
     generalize e21 : val 21 = u21 at h21
     rw [← HF_.out]
     change wpList _ _ _ [_, _] _ _
     simp only [puts_consT, puts_nilm, vals, List.map_cons, List.map_nil, Nat.zero_add, Nat.reduceAdd, e0, e21, List.setIfInBounds_toArray, List.set_cons_succ, List.set_cons_zero]
     clear hsp hdis HF_ hsz_ hB hW_5 e0 e21 ev0 ev3 ev4
     obtain ⟨gr, u6, rfl, hgr, hbr, hv6⟩ := h21
     have hou := own_below HU4.out hBo
     have hvu := HVU4.out.kb (.of hBo)
     have hsz := hBo.size
     have k7 := Lib.hid (Blw k3.out hBo)
     have HOU := Lib.hid hou; have HVU2 := Lib.hid hvu; have HBR := Lib.hid hbr; have HV6 := Lib.hid hv6
     have hbase : w.heap.size ≤ wx.heap.size := k7.out.size
     clear hBo hou hvu hbr hv6
     go_wp2_with (refine wpList_app rfl (.tmp 31) (.tmp 52) rfl rfl rfl hbase HOU.out HVU2.out HBR.out HV6.out (by have := HIK.out; omega) ?_)
     intro v7 w7 ho7 hg7 hk7 hv7
     have k8 := Lib.hid (k7.out.grown hg7 hbase (fun k hk => (HOU.out.lt k hk).1))
     have HO7 := Lib.hid ho7; have HV7 := Lib.hid hv7
     clear ho7 hg7 hk7 hv7
     go_wp2
     refine ⟨⟨k + 1, i + 1, _, by omega, Lib.hid (by rw [HIK.out]; omega), hib2, by go_num, HO7, Lib.hid ?_, k8⟩, by have := HIK.out; simp [intOf]; omega⟩
     rw [K.outs_succ, HF.out]
     exact HV7.out
  ·have hkK : k = K0 := by omega
   subst hkK
   by_cases hiN0 : (i : Int) < (N : Int)
   ·have hiN := hiN0
    have ka : (a0 : Int) + win ≤ (i : Int) := by have := HIK.out; have := HK9.out; omega
    have hz : k ≠ 0 := by have := HIK.out; have := HK9.out; omega
    go_upto_region 3 with fail
    generalize hW_3 : wo.drew = W_3
    refine gen_act ?_
    intro F_ hF_
    have ev0 : F_.eval (.tmp 0) = .pointer (some ⟨b, 0, none⟩) := by rw [← hF_]; rfl
    have ev4 : F_.eval (.tmp 4) = .int .i64 (i : Int) := by rw [← hF_]; rfl
    have hsz_ : ∀ d ∈ ([(9, []), (10, []), (11, [1]), (12, [2]), (13, [3]), (14, [4]), (15, [0, 5]), (16, [6]), (17, [7]), (18, [7]), (19, [9, 7]), (20, [10, 7]), (21, [11, 7]), (22, [7]), (23, [13, 7]), (24, [14, 7]), (25, [15, 7]), (26, [12, 16, 7])] : List (Nat × List Nat)).map (·.1), d < F_.tmps.size := by rw [← hF_]; simp
    have HF_ := Lib.hid hF_; clear hF_
    refine wp_flow_tabG true hW_3 18 [(9, []), (10, []), (11, [1]), (12, [2]), (13, [3]), (14, [4]), (15, [0, 5]), (16, [6]), (17, [7]), (18, [7]), (19, [9, 7]), (20, [10, 7]), (21, [11, 7]), (22, [7]), (23, [13, 7]), (24, [14, 7]), (25, [15, 7]), (26, [12, 16, 7])] [SC (.int .i64 (i : Int)), SC (.pointer (some ⟨b, 0, none⟩)), SC (.pointer (some ⟨b, 0, none⟩)), SC (.pointer (some ⟨b, 2, none⟩)), SC (.slice As N cs), SC (.int .i64 ((N : Nat) : Int)), SC (.bool true), SC (.bool true), SC (.int .i64 (i : Int)), SC (.pointer (some ⟨b, 0, none⟩)), SC (.pointer (some ⟨b, 0, none⟩)), SC (.pointer (some ⟨b, 3, none⟩)), SC (.int .i64 (a0 : Int)), SC (.pointer (some ⟨b, 0, none⟩)), SC (.pointer (some ⟨b, 0, none⟩)), SC (.pointer (some ⟨b, 0, none⟩)), SC (.int .i64 win), SC (.int .i64 ((a0 : Int) + win))] [false, false, false, false, false, false, false, false, false, false, false, false, false, false, false, false, false, false] (by kernel_rfl) (by kernel_rfl) (by kernel_rfl) (by kernel_rfl) (by kernel_rfl) hsz_ ⟨SC.mono _, SC.mono _, SC.mono _, SC.mono _, SC.mono _, SC.mono _, SC.mono _, SC.mono _, SC.mono _, SC.mono _, SC.mono _, SC.mono _, SC.mono _, SC.mono _, SC.mono _, SC.mono _, SC.mono _, SC.mono _, trivial⟩ ?_ ?_
    ·intro kq hkq a wx hB hp hs
     have hBo : Below wo.heap.size wo wx := dB hW_3 hB
     have hcase : kq = 0 ∨ kq = 1 ∨ kq = 2 ∨ kq = 3 ∨ kq = 4 ∨ kq = 5 ∨ kq = 6 ∨ kq = 7 ∨ kq = 8 ∨ kq = 9 ∨ kq = 10 ∨ kq = 11 ∨ kq = 12 ∨ kq = 13 ∨ kq = 14 ∨ kq = 15 ∨ kq = 16 ∨ kq = 17 := by omega
     rcases hcase with rfl | rfl | rfl | rfl | rfl | rfl | rfl | rfl | rfl | rfl | rfl | rfl | rfl | rfl | rfl | rfl | rfl | rfl
     ·clear hp
      exact ⟨_, rfl, .inl ⟨wanted_none rfl, op_mv (s := SC _) rfl ((hs 4 rfl).trans ev4)⟩⟩
     ·clear hp
      exact ⟨_, rfl, .inl ⟨wanted_none rfl, op_mv (s := SC _) rfl ((hs 0 rfl).trans ev0)⟩⟩
     ·obtain ⟨k0, -⟩ := hp
      exact ⟨_, rfl, .inl ⟨wanted_none rfl, op_nil rfl k0⟩⟩
     ·obtain ⟨k0, -⟩ := hp
      exact ⟨_, rfl, .inl ⟨wanted_none rfl, fa_sherdref37_End_2 rfl k0⟩⟩
     ·obtain ⟨k0, -⟩ := hp
      exact ⟨_, rfl, .inl ⟨wanted_none rfl, ld_____uint8 rfl k0 (hxr.below hBo) rfl⟩⟩
     ·obtain ⟨k0, -⟩ := hp
      have e0 : a.eval (.tmp 13) = .slice As N cs := k0
      simp [Act.eval] at e0
      exact ⟨_, rfl, .inl ⟨wanted_none rfl, Does.val (by simp [execOp, Act.eval, e0, go_sem]) rfl⟩⟩
     ·obtain ⟨k0, k2, -⟩ := hp
      have e0 : a.eval (.tmp 9) = .int .i64 (i : Int) := k0
      simp [Act.eval] at e0
      have e1 : a.eval (.tmp 14) = .int .i64 ((N : Nat) : Int) := k2
      simp [Act.eval] at e1
      exact ⟨_, rfl, .inl ⟨wanted_none rfl, Does.val (by simp [execOp, Act.eval, e0, e1, go_sem, hiN]) rfl⟩⟩
     ·obtain ⟨k0, -⟩ := hp
      exact ⟨_, rfl, .inl ⟨wanted_none rfl, op_mv (s := SC _) rfl k0⟩⟩
     ·obtain ⟨k0, -⟩ := hp
      have hgd : a.eval (.tmp 16) = .bool true := k0
      exact ⟨_, rfl, .inl ⟨(wanted_of rfl rfl hgd).trans rfl, op_mv (s := SC _) rfl ((hs 4 rfl).trans ev4)⟩⟩
     ·obtain ⟨k0, -⟩ := hp
      have hgd : a.eval (.tmp 16) = .bool true := k0
      exact ⟨_, rfl, .inl ⟨(wanted_of rfl rfl hgd).trans rfl, op_mv (s := SC _) rfl ((hs 0 rfl).trans ev0)⟩⟩
     ·obtain ⟨k0, k2, -⟩ := hp
      have hgd : a.eval (.tmp 16) = .bool true := k2
      exact ⟨_, rfl, .inl ⟨(wanted_of rfl rfl hgd).trans rfl, op_nil rfl k0⟩⟩
     ·obtain ⟨k0, k2, -⟩ := hp
      have hgd : a.eval (.tmp 16) = .bool true := k2
      exact ⟨_, rfl, .inl ⟨(wanted_of rfl rfl hgd).trans rfl, fa_sherdref37_End_3 rfl k0⟩⟩
     ·obtain ⟨k0, k2, -⟩ := hp
      have hgd : a.eval (.tmp 16) = .bool true := k2
      exact ⟨_, rfl, .inl ⟨(wanted_of rfl rfl hgd).trans rfl, ld_int rfl k0 (hxr.below hBo) rfl⟩⟩
     ·obtain ⟨k0, -⟩ := hp
      have hgd : a.eval (.tmp 16) = .bool true := k0
      exact ⟨_, rfl, .inl ⟨(wanted_of rfl rfl hgd).trans rfl, op_mv (s := SC _) rfl ((hs 0 rfl).trans ev0)⟩⟩
     ·obtain ⟨k0, k2, -⟩ := hp
      have hgd : a.eval (.tmp 16) = .bool true := k2
      exact ⟨_, rfl, .inl ⟨(wanted_of rfl rfl hgd).trans rfl, op_nil rfl k0⟩⟩
     ·obtain ⟨k0, k2, -⟩ := hp
      have hgd : a.eval (.tmp 16) = .bool true := k2
      exact ⟨_, rfl, .inl ⟨(wanted_of rfl rfl hgd).trans rfl, fa_sherdref37_End_0 rfl k0⟩⟩
     ·obtain ⟨k0, k2, -⟩ := hp
      have hgd : a.eval (.tmp 16) = .bool true := k2
      exact ⟨_, rfl, .inl ⟨(wanted_of rfl rfl hgd).trans rfl, ld_int rfl k0 (hxr.below hBo) rfl⟩⟩
     ·obtain ⟨k0, k2, k5, -⟩ := hp
      have hgd : a.eval (.tmp 16) = .bool true := k5
      have e0 : a.eval (.tmp 21) = .int .i64 (a0 : Int) := k0
      simp [Act.eval] at e0
      have e1 : a.eval (.tmp 25) = .int .i64 win := k2
      simp [Act.eval] at e1
      exact ⟨_, rfl, .inl ⟨(wanted_of rfl rfl hgd).trans rfl, Does.val (by simp [execOp, Act.eval, e0, e1, go_sem, hw0]) rfl⟩⟩
    ·intro val wx hB hsp hdis
     have hBo : Below wo.heap.size wo wx := dB hW_3 hB
     have e7 : val 7 = .bool true := hsp 7 (by omega)
     have e8 : val 8 = .int .i64 (i : Int) := hsp 8 (by omega)
     have e17 : val 17 = .int .i64 ((a0 : Int) + win) := hsp 17 (by omega)
     rw [← HF_.out]
     change wpList _ _ _ [_, _] _ _
     simp only [puts_consT, puts_nilm, vals, List.map_cons, List.map_nil, Nat.zero_add, Nat.reduceAdd, e7, e8, e17, List.setIfInBounds_toArray, List.set_cons_succ, List.set_cons_zero]
     clear hsp hdis HF_ hsz_ hB hW_3 e7 e8 e17 ev0 ev4
     obtain ⟨w4, rfl⟩ : ∃ w4 : World, w4 = wx := ⟨_, rfl⟩
     have HU4 := Lib.hid (own_below HU.out hBo); have HVU4 := Lib.hid (HVU.out.kb (.of hBo)); have k3 := Lib.hid (Blw HB.out hBo)
     have HX4 := Lib.hid (HX0.out.below k3.out)
     clear hBo hxr HU HVU HB
     obtain ⟨c0, c1, c2, c3', c4, c5, c6, c7, z, l0⟩ := HX4.out.f8
     have hz2 : ((k : Int) == 0) = false := beq_eq_false_iff_ne.2 (by omega)
     have HZ := Lib.hid hz; clear hz
     go_wp2
     go_ret
     rw [HSOME.out _ HK0_.out (.inl HZ.out)]
     exact rout_end HE.out k3.out (RowV.of HU4.out HVU4.out)
   ·have hiN : (N : Int) ≤ (i : Int) := by omega
    have hiM : N ≤ i := by omega
    go_upto_region 3 with fail
    generalize hW_3 : wo.drew = W_3
    refine gen_act ?_
    intro F_ hF_
    have ev0 : F_.eval (.tmp 0) = .pointer (some ⟨b, 0, none⟩) := by rw [← hF_]; rfl
    have ev4 : F_.eval (.tmp 4) = .int .i64 (i : Int) := by rw [← hF_]; rfl
    have hsz_ : ∀ d ∈ ([(9, []), (10, []), (11, [1]), (12, [2]), (13, [3]), (14, [4]), (15, [0, 5]), (16, [6]), (17, [7]), (18, [7]), (19, [9, 7]), (20, [10, 7]), (21, [11, 7]), (22, [7]), (23, [13, 7]), (24, [14, 7]), (25, [15, 7]), (26, [12, 16, 7]), (27, [8, 17, 7]), (28, [7, 18])] : List (Nat × List Nat)).map (·.1), d < F_.tmps.size := by rw [← hF_]; simp
    have HF_ := Lib.hid hF_; clear hF_
    refine wp_flow_tabG true hW_3 20 [(9, []), (10, []), (11, [1]), (12, [2]), (13, [3]), (14, [4]), (15, [0, 5]), (16, [6]), (17, [7]), (18, [7]), (19, [9, 7]), (20, [10, 7]), (21, [11, 7]), (22, [7]), (23, [13, 7]), (24, [14, 7]), (25, [15, 7]), (26, [12, 16, 7]), (27, [8, 17, 7]), (28, [7, 18])] [SC (.int .i64 (i : Int)), SC (.pointer (some ⟨b, 0, none⟩)), SC (.pointer (some ⟨b, 0, none⟩)), SC (.pointer (some ⟨b, 2, none⟩)), SC (.slice As N cs), SC (.int .i64 ((N : Nat) : Int)), SC (.bool false), SC (.bool false), SC undef, SC undef, SC undef, SC undef, SC undef, SC undef, SC undef, SC undef, SC undef, SC undef, SC undef, SC (.bool false)] [false, false, false, false, false, false, false, false, false, false, false, false, false, false, false, false, false, false, false, false] (by kernel_rfl) (by kernel_rfl) (by kernel_rfl) (by kernel_rfl) (by kernel_rfl) hsz_ ⟨SC.mono _, SC.mono _, SC.mono _, SC.mono _, SC.mono _, SC.mono _, SC.mono _, SC.mono _, SC.mono _, SC.mono _, SC.mono _, SC.mono _, SC.mono _, SC.mono _, SC.mono _, SC.mono _, SC.mono _, SC.mono _, SC.mono _, SC.mono _, trivial⟩ ?_ ?_
    ·intro kq hkq a wx hB hp hs
     have hBo : Below wo.heap.size wo wx := dB hW_3 hB
     have hcase : kq = 0 ∨ kq = 1 ∨ kq = 2 ∨ kq = 3 ∨ kq = 4 ∨ kq = 5 ∨ kq = 6 ∨ kq = 7 ∨ kq = 8 ∨ kq = 9 ∨ kq = 10 ∨ kq = 11 ∨ kq = 12 ∨ kq = 13 ∨ kq = 14 ∨ kq = 15 ∨ kq = 16 ∨ kq = 17 ∨ kq = 18 ∨ kq = 19 := by omega
     rcases hcase with rfl | rfl | rfl | rfl | rfl | rfl | rfl | rfl | rfl | rfl | rfl | rfl | rfl | rfl | rfl | rfl | rfl | rfl | rfl | rfl
     ·clear hp
      exact ⟨_, rfl, .inl ⟨wanted_none rfl, op_mv (s := SC _) rfl ((hs 4 rfl).trans ev4)⟩⟩
     ·clear hp
      exact ⟨_, rfl, .inl ⟨wanted_none rfl, op_mv (s := SC _) rfl ((hs 0 rfl).trans ev0)⟩⟩
     ·obtain ⟨k0, -⟩ := hp
      exact ⟨_, rfl, .inl ⟨wanted_none rfl, op_nil rfl k0⟩⟩
     ·obtain ⟨k0, -⟩ := hp
      exact ⟨_, rfl, .inl ⟨wanted_none rfl, fa_sherdref37_End_2 rfl k0⟩⟩
     ·obtain ⟨k0, -⟩ := hp
      exact ⟨_, rfl, .inl ⟨wanted_none rfl, ld_____uint8 rfl k0 (hxr.below hBo) rfl⟩⟩
     ·obtain ⟨k0, -⟩ := hp
      have e0 : a.eval (.tmp 13) = .slice As N cs := k0
      simp [Act.eval] at e0
      exact ⟨_, rfl, .inl ⟨wanted_none rfl, Does.val (by simp [execOp, Act.eval, e0, go_sem]) rfl⟩⟩
     ·obtain ⟨k0, k2, -⟩ := hp
      have e0 : a.eval (.tmp 9) = .int .i64 (i : Int) := k0
      simp [Act.eval] at e0
      have e1 : a.eval (.tmp 14) = .int .i64 ((N : Nat) : Int) := k2
      simp [Act.eval] at e1
      exact ⟨_, rfl, .inl ⟨wanted_none rfl, Does.val (by simp [execOp, Act.eval, e0, e1, go_sem, hiM]) rfl⟩⟩
     ·obtain ⟨k0, -⟩ := hp
      exact ⟨_, rfl, .inl ⟨wanted_none rfl, op_mv (s := SC _) rfl k0⟩⟩
     ·obtain ⟨k0, -⟩ := hp
      have hgd : a.eval (.tmp 16) = .bool false := k0
      exact ⟨_, rfl, .inr ⟨(wanted_of rfl rfl hgd).trans rfl, rfl, rfl⟩⟩
     ·obtain ⟨k0, -⟩ := hp
      have hgd : a.eval (.tmp 16) = .bool false := k0
      exact ⟨_, rfl, .inr ⟨(wanted_of rfl rfl hgd).trans rfl, rfl, rfl⟩⟩
     ·obtain ⟨k0, k2, -⟩ := hp
      have hgd : a.eval (.tmp 16) = .bool false := k2
      exact ⟨_, rfl, .inr ⟨(wanted_of rfl rfl hgd).trans rfl, rfl, rfl⟩⟩
     ·obtain ⟨k0, k2, -⟩ := hp
      have hgd : a.eval (.tmp 16) = .bool false := k2
      exact ⟨_, rfl, .inr ⟨(wanted_of rfl rfl hgd).trans rfl, rfl, rfl⟩⟩
     ·obtain ⟨k0, k2, -⟩ := hp
      have hgd : a.eval (.tmp 16) = .bool false := k2
      exact ⟨_, rfl, .inr ⟨(wanted_of rfl rfl hgd).trans rfl, rfl, rfl⟩⟩
     ·obtain ⟨k0, -⟩ := hp
      have hgd : a.eval (.tmp 16) = .bool false := k0
      exact ⟨_, rfl, .inr ⟨(wanted_of rfl rfl hgd).trans rfl, rfl, rfl⟩⟩
     ·obtain ⟨k0, k2, -⟩ := hp
      have hgd : a.eval (.tmp 16) = .bool false := k2
      exact ⟨_, rfl, .inr ⟨(wanted_of rfl rfl hgd).trans rfl, rfl, rfl⟩⟩
     ·obtain ⟨k0, k2, -⟩ := hp
      have hgd : a.eval (.tmp 16) = .bool false := k2
      exact ⟨_, rfl, .inr ⟨(wanted_of rfl rfl hgd).trans rfl, rfl, rfl⟩⟩
     ·obtain ⟨k0, k2, -⟩ := hp
      have hgd : a.eval (.tmp 16) = .bool false := k2
      exact ⟨_, rfl, .inr ⟨(wanted_of rfl rfl hgd).trans rfl, rfl, rfl⟩⟩
     ·obtain ⟨k0, k2, k5, -⟩ := hp
      have hgd : a.eval (.tmp 16) = .bool false := k5
      exact ⟨_, rfl, .inr ⟨(wanted_of rfl rfl hgd).trans rfl, rfl, rfl⟩⟩
     ·obtain ⟨k0, k2, k5, -⟩ := hp
      have hgd : a.eval (.tmp 16) = .bool false := k5
      exact ⟨_, rfl, .inr ⟨(wanted_of rfl rfl hgd).trans rfl, rfl, rfl⟩⟩
     ·obtain ⟨k0, k2, -⟩ := hp
      have e0 : a.eval (.tmp 16) = .bool false := k0
      simp [Act.eval] at e0
      have e1 : a.eval (.tmp 27) = undef := k2
      simp [Act.eval] at e1
      exact ⟨_, rfl, .inl ⟨wanted_none rfl, Does.val (by simp [execOp, Act.eval, e0, e1, go_sem]) rfl⟩⟩
    ·intro val wx hB hsp hdis
     have hBo : Below wo.heap.size wo wx := dB hW_3 hB
     have e19 : val 19 = .bool false := hsp 19 (by omega)
     rw [← HF_.out]
     change wpList _ _ _ [] _ _
     simp only [puts_consT, puts_nilm, vals, List.map_cons, List.map_nil, Nat.zero_add, Nat.reduceAdd, e19, List.setIfInBounds_toArray, List.set_cons_succ, List.set_cons_zero]
     clear hsp hdis HF_ hsz_ hB hW_3 e19 ev0 ev4
     obtain ⟨w4, rfl⟩ : ∃ w4 : World, w4 = wx := ⟨_, rfl⟩
     have HU4 := Lib.hid (own_below HU.out hBo); have HVU4 := Lib.hid (HVU.out.kb (.of hBo)); have k3 := Lib.hid (Blw HB.out hBo)
     have HX4 := Lib.hid (HX0.out.below k3.out)
     clear hBo hxr HU HVU HB
     obtain ⟨c0, c1, c2, c3', c4, c5, c6, c7, z, l0⟩ := HX4.out.f8
     by_cases hz : k = 0
     ·subst hz
      by_cases how : owing = true
      ·subst how
       go_wp2_with fail
       clear c0 c1 c2 c3' c4 c5 c6 c7 z l0
       go_upto_region 7 with fail
       generalize hW_7 : w4.drew = W_7
       refine gen_act ?_
       intro F_ hF_
       have ev0 : F_.eval (.tmp 0) = .pointer (some ⟨b, 0, none⟩) := by rw [← hF_]; rfl
       have ev3 : F_.eval (.tmp 3) = .slice A3 0 c3 := by rw [← hF_]; rfl
       have hsz_ : ∀ d ∈ ([(63, []), (64, []), (65, [1]), (66, [2]), (67, [3]), (68, []), (69, [5]), (70, [6]), (71, [7]), (72, [8]), (73, [9]), (74, [4, 10]), (75, [11])] : List (Nat × List Nat)).map (·.1), d < F_.tmps.size := by rw [← hF_]; simp
       have HF_ := Lib.hid hF_; clear hF_
       refine wp_flow_tab true hW_7 13 [(63, []), (64, []), (65, [1]), (66, [2]), (67, [3]), (68, []), (69, [5]), (70, [6]), (71, [7]), (72, [8]), (73, [9]), (74, [4, 10]), (75, [11])] [SC (.slice A3 0 c3), SC (.pointer (some ⟨b, 0, none⟩)), SC (.pointer (some ⟨b, 0, none⟩)), SC (.pointer (some ⟨b, 1, none⟩)), SC (.int .u64 key), SC (.pointer (some ⟨b, 0, none⟩)), SC (.pointer (some ⟨b, 0, none⟩)), SC (.pointer (some ⟨b, 4, none⟩)), SC (.int .i64 got), SC (.agg #[.int .i64 0, .int .i64 got, .slice none 0 0]), SY (K.pk 0 got []), SY (K.sealed key (K.pk 0 got [])), SOne w4.heap.size (K.sealed key (K.pk 0 got []))] [false, false, false, false, false, false, false, false, false, false, false, false, false] (by kernel_rfl) (by kernel_rfl) (by kernel_rfl) (by kernel_rfl) (by kernel_rfl) hsz_ ⟨SC.mono _, SC.mono _, SC.mono _, SC.mono _, SC.mono _, SC.mono _, SC.mono _, SC.mono _, SC.mono _, SC.mono _, SY.mono _, SY.mono _, SOne.mono _ _, trivial⟩ ?_ ?_
       ·intro kq hkq a wx hB hp hs
        have hBo : Below w4.heap.size w4 wx := dB hW_7 hB
        have hcase : kq = 0 ∨ kq = 1 ∨ kq = 2 ∨ kq = 3 ∨ kq = 4 ∨ kq = 5 ∨ kq = 6 ∨ kq = 7 ∨ kq = 8 ∨ kq = 9 ∨ kq = 10 ∨ kq = 11 ∨ kq = 12 := by omega
        rcases hcase with rfl | rfl | rfl | rfl | rfl | rfl | rfl | rfl | rfl | rfl | rfl | rfl | rfl
        ·clear hp
         exact ⟨_, rfl, op_mv (s := SC _) rfl ((hs 3 rfl).trans ev3)⟩
        ·clear hp
         exact ⟨_, rfl, op_mv (s := SC _) rfl ((hs 0 rfl).trans ev0)⟩
        ·obtain ⟨k0, -⟩ := hp
         exact ⟨_, rfl, op_nil rfl k0⟩
        ·obtain ⟨k0, -⟩ := hp
         exact ⟨_, rfl, fa_sherdref37_End_1 rfl k0⟩
        ·obtain ⟨k0, -⟩ := hp
         exact ⟨_, rfl, ld_uint64 rfl k0 (HX4.out.below hBo) rfl⟩
        ·clear hp
         exact ⟨_, rfl, op_mv (s := SC _) rfl ((hs 0 rfl).trans ev0)⟩
        ·obtain ⟨k0, -⟩ := hp
         exact ⟨_, rfl, op_nil rfl k0⟩
        ·obtain ⟨k0, -⟩ := hp
         exact ⟨_, rfl, fa_sherdref37_End_4 rfl k0⟩
        ·obtain ⟨k0, -⟩ := hp
         exact ⟨_, rfl, ld_int rfl k0 (HX4.out.below hBo) rfl⟩
        ·obtain ⟨k0, -⟩ := hp
         have e0 : a.eval (.tmp 71) = .int .i64 got := k0
         simp [Act.eval] at e0
         exact ⟨_, rfl, Does.val (by simp [execOp, Act.eval, e0, go_sem]) rfl⟩
        ·obtain ⟨k0, -⟩ := hp
         exact ⟨_, rfl, Does.ry (f := 18) (call1 rfl (fun _ => by simp [go_sem]) k0) ((pk_bv 0 got (BV.nil wx) (by unfold W.Is64; omega) HG64.out (by simp)).mono fun _ _ h => h.bv)⟩
        ·obtain ⟨k0, k2, -⟩ := hp
         obtain ⟨A9, c9, e9, k9, hm9, hr9, -⟩ := k2
         exact ⟨_, rfl, Does.ry (f := 17) (call2 rfl (fun _ => by simp [go_sem]) k0 e9) ((rseal_rd key A9 c9 _ _ wx HKY.out hr9 (Nat.le_refl _) k9 hm9 (by have := K.pk_len 0 got [] (by simp); omega)).mono fun _ _ h => h.bv)⟩
        ·obtain ⟨k0, -⟩ := hp
         exact ⟨_, rfl, op_one rfl k0 hBo.size⟩
       ·intro val wx hB hsp hdis
        have hBo : Below w4.heap.size w4 wx := dB hW_7 hB
        have e0 : val 0 = .slice A3 0 c3 := hsp 0 (by omega)
        have h12 : (SOne w4.heap.size (K.sealed key (K.pk 0 got []))) wx (val 12) := hsp 12 (by omega)
        generalize e12 : val 12 = u12 at h12
        rw [← HF_.out]
        change wpList _ _ _ [_, _] _ _
        simp only [puts_consT, puts_nilm, vals, List.map_cons, List.map_nil, Nat.zero_add, Nat.reduceAdd, e0, e12, List.setIfInBounds_toArray, List.set_cons_succ, List.set_cons_zero]
        clear hsp hdis HF_ hsz_ hB hW_7 e0 e12 ev0 ev3
        obtain ⟨gr, u6, rfl, hgr, hbr, hv6⟩ := h12
        have hou := own_below HU4.out hBo
        have hvu := HVU4.out.kb (.of hBo)
        have hsz := hBo.size
        have k7 := Lib.hid (Blw k3.out hBo)
        have HOU := Lib.hid hou; have HVU2 := Lib.hid hvu; have HBR := Lib.hid hbr; have HV6 := Lib.hid hv6
        have hbase : w.heap.size ≤ wx.heap.size := k7.out.size
        clear hBo hou hvu hbr hv6
        go_wp2_with (refine wpList_app rfl (.tmp 63) (.tmp 75) rfl rfl rfl hbase HOU.out HVU2.out HBR.out HV6.out (by omega) ?_)
        intro v7 w7 ho7 hg7 hk7 hv7
        have k8 := Lib.hid (k7.out.grown hg7 hbase (fun k hk => (HOU.out.lt k hk).1))
        have HO7 := Lib.hid ho7; have HV7 := Lib.hid hv7
        have hxr := HX0.out.below k8.out
        obtain ⟨A7, c8, rfl, -⟩ := own_form ho7
        obtain ⟨c0, c1, c2, c3', c4, c5, c6, c7, z, l0⟩ := hxr.f8
        clear ho7 hg7 hk7 hv7
        go_wp2
        go_ret
        rw [HNONE.out HK0_.out (by rw [HS.out]; rfl)]
        exact rout_end HE.out k8.out (RowV.of HO7.out (by have h := HV7.out; rw [HS.out] at h ⊢; exact h))
      ·have how2 : owing = false := by simpa using how
       subst how2
       clear how
       go_wp2
       go_ret
       rw [HSOME.out _ HK0_.out (.inr (by rw [HS.out]; rfl))]
       exact rout_end HE.out k3.out (RowV.of HU4.out HVU4.out)
     ·have hz2 : ((k : Int) == 0) = false := beq_eq_false_iff_ne.2 (by omega)
      have HZ := Lib.hid hz; clear hz
      go_wp2
      go_ret
      rw [HSOME.out _ HK0_.out (.inl HZ.out)]
      exact rout_end HE.out k3.out (RowV.of HU4.out HVU4.out)
end Go.Proofs.Ytgdibcgphjmofaa
namespace Go.Proofs.Ytgdibcgphjmofaa
set_option maxHeartbeats 2000000
open Go.RowKit
set_option linter.unusedVariables false
set_option maxRecDepth 100000 in
theorem rread_f1 (A : Option Addr) (c L : Nat) (l : List UInt8) (w : World) (hr : Rd w L A (W.bc l)) (hL : L ≤ w.heap.size) (hc : l.length ≤ c) (hm : c ≤ maxLen) (hl : l.length ≤ 4398046511104) (hE : (W.decI l).2.2 ≠ 0) :
  Calls Try.prog 39 #[.slice A l.length c] w (RRn w) := by
 have HR := Lib.hid hr; clear hr
 go_enter Try.func39, Try.ntmps39
 go_wp2_with fail
 generalize hW1 : w.alloc (.cells _ 43) = w1
 obtain ⟨hx, k1⟩ := box1 hW1
 have hR1 := HR.out.below k1 hL
 have hL1 : L ≤ w1.heap.size := Nat.le_trans hL k1.size
 refine (rgetints_any l A l.length c L w1 hR1 hL1 rfl hc hm (by omega)).mono ?_
 rintro e w2 ⟨v1, rfl, hown, k0⟩
 have hx2 := hx.below k0
 have hR2 := Lib.hid (hR1.below k0 hL1)
 have k2 := Lib.hid (Blw k1 k0)
 have hL2 : L ≤ w2.heap.size := Nat.le_trans hL1 k0.size
 clear hW1 hx k1 HR hR1 k0
 generalize (W.decI l).2.2 = er at *
 generalize (W.decI l).2.1 = nn at *
 generalize (W.decI l).1 = li at *
 have hd : (er == 0) = false := beq_eq_false_iff_ne.2 hE
 have hd2 : (er != 0) = true := by rw [bne, hd]; rfl
 clear hE
 obtain ⟨c0, c1, c2, z0, z1⟩ := f3 hx2
 clear hown
 go_wp2
 have hz := ((hx2.set_ 0 (.int .i64 0)).set_ 1 (.int .i64 0)).set_ 2 (.slice none 0 0)
 obtain ⟨d0, d1, d2, -, -⟩ := f3 hz
 refine bodyPost_ret (v := .tuple #[.agg #[.int .i64 0, .int .i64 0, .slice none 0 0], .bool false]) (by simp [results, Try.results39, go_sem, d0, d1, d2]) rfl ⟨_, _, _, rfl, rfl, rfl, rfl, ((k2.out.setCell (Nat.le_refl _) _).setCell (Nat.le_refl _) _).setCell (Nat.le_refl _) _⟩
set_option maxRecDepth 100000 in
theorem rread_f1b (A : Option Addr) (c L : Nat) (l : List UInt8) (w : World) (hr : Rd w L A (W.bc l)) (hL : L ≤ w.heap.size) (hc : l.length ≤ c) (hm : c ≤ maxLen) (hl : l.length ≤ 4398046511104) (hE : (W.decI l).2.2 = 0) (hn2 : (W.decI l).1.length ≠ 2) :
  Calls Try.prog 39 #[.slice A l.length c] w (RRn w) := by
 have HR := Lib.hid hr; clear hr
 go_enter Try.func39, Try.ntmps39
 go_wp2_with fail
 generalize hW1 : w.alloc (.cells _ 43) = w1
 obtain ⟨hx, k2⟩ := box1 hW1
 have hR1 := HR.out.below k2 hL
 have hL1 : L ≤ w1.heap.size := Nat.le_trans hL k2.size
 refine (rgetints_any l A l.length c L w1 hR1 hL1 rfl hc hm (by omega)).mono ?_
 rintro e w2 ⟨v1, rfl, hown, k0⟩
 have hx2 := hx.below k0
 have hR2 := Lib.hid (hR1.below k0 hL1)
 have k3 := Lib.hid (Blw k2 k0)
 have hL2 : L ≤ w2.heap.size := Nat.le_trans hL1 k0.size
 clear hW1 hx k2 HR hR1 k0
 rw [hE]
 generalize (W.decI l).2.1 = nn at *
 generalize (W.decI l).1 = li at *
 clear hE
 obtain ⟨A1, k1, rfl, -⟩ := own_form hown
 generalize hN : li.length = N at *
 have hd : ((N : Int) == 2) = false := beq_eq_false_iff_ne.2 (by omega)
 have hd2 : ((N : Int) != 2) = true := by rw [bne, hd]; rfl
 have HN := Lib.hid hN
 clear hn2 hN hown
 obtain ⟨c0, c1, c2, z0, z1⟩ := f3 hx2
 go_wp2
 have hz := ((hx2.set_ 0 (.int .i64 0)).set_ 1 (.int .i64 0)).set_ 2 (.slice none 0 0)
 obtain ⟨d0, d1, d2, -, -⟩ := f3 hz
 refine bodyPost_ret (v := .tuple #[.agg #[.int .i64 0, .int .i64 0, .slice none 0 0], .bool false]) (by simp [results, Try.results39, go_sem, d0, d1, d2]) rfl ⟨_, _, _, rfl, rfl, rfl, rfl, ((k3.out.setCell (Nat.le_refl _) _).setCell (Nat.le_refl _) _).setCell (Nat.le_refl _) _⟩
set_option maxRecDepth 100000 in
theorem rread_f2 (A : Option Addr) (c L : Nat) (l : List UInt8) (w : World) (hr : Rd w L A (W.bc l)) (hL : L ≤ w.heap.size) (hc : l.length ≤ c) (hm : c ≤ maxLen) (hl : l.length ≤ 4398046511104) (p q : Int) (nn : Nat) (hI : W.decI l = ([p, q], nn, 0)) (hcn : ¬ c = nn) (hE : (W.decB (l.drop nn)).2.2 ≠ 0) :
  Calls Try.prog 39 #[.slice A l.length c] w (RRn w) := by
 have HR := Lib.hid hr; clear hr
 go_enter Try.func39, Try.ntmps39
 go_wp2_with fail
 generalize hW1 : w.alloc (.cells _ 43) = w1
 obtain ⟨hx, k2⟩ := box1 hW1
 have hR1 := HR.out.below k2 hL
 have hL1 : L ≤ w1.heap.size := Nat.le_trans hL k2.size
 refine (rgetints_any l A l.length c L w1 hR1 hL1 rfl hc hm (by omega)).mono ?_
 rintro e w2 ⟨v1, rfl, hown, k0⟩
 have hx2 := hx.below k0
 have hR2 := Lib.hid (hR1.below k0 hL1)
 have k4 := Lib.hid (Blw k2 k0)
 have hL2 : L ≤ w2.heap.size := Nat.le_trans hL1 k0.size
 clear hW1 hx k2 HR hR1 k0
 rw [hI] at hown ⊢
 have hcan := W.decL_canon W.codec_int l (by show (W.decI l).2.2 = 0; rw [hI])
 change (∀ x ∈ (W.decI l).1, W.Is64 x) ∧ (W.decI l).2.1 ≤ l.length ∧ _ at hcan
 rw [hI] at hcan
 have hnl : nn ≤ l.length := hcan.2.1
 clear hcan
 obtain ⟨g, k1, rfl, -⟩ := own_pos hown (by simp)
 have hown2 : w2.ownsRow w1.heap.size 3 1 (.slice (some ⟨g, 0, none⟩) 2 k1) 2 (ic [p, q]) := hown
 have HO := Lib.hid hown2; clear hown hown2
 have hcut := HR2c hR2.out hL2 hc nn
 have HI := Lib.hid hI; clear hI
 simp only [List.length_cons, List.length_nil, Nat.reduceAdd]
 unfold maxLen at hm
 go_wp2_with fail
 refine (rgetbytes_b (l.drop nn) _ _ _ L w2 (by simpa [hcn] using hcut) hL2 (by simp) (by omega) (by unfold maxLen; omega) (by omega) ⟨(W.decB (l.drop nn)).1.toArray⟩ (W.decB (l.drop nn)).2.1 (W.decB (l.drop nn)).2.2 rfl).mono ?_
 rintro e w3 ⟨rfl, k3⟩
 have hx3 := hx2.below k3
 have k5 := Lib.hid (Blw k4.out k3)
 clear k3 hx2 k4 hcut HO
 generalize (W.decB (l.drop nn)).2.2 = er at *
 generalize (W.decB (l.drop nn)).2.1 = mm at *
 generalize (W.decB (l.drop nn)).1 = xx at *
 have hd : (er == 0) = false := beq_eq_false_iff_ne.2 hE
 have hd2 : (er != 0) = true := by rw [bne, hd]; rfl
 clear hE
 obtain ⟨c0, c1, c2, z0, z1⟩ := f3 hx3
 go_wp2
 have hz := ((hx3.set_ 0 (.int .i64 0)).set_ 1 (.int .i64 0)).set_ 2 (.slice none 0 0)
 obtain ⟨d0, d1, d2, -, -⟩ := f3 hz
 refine bodyPost_ret (v := .tuple #[.agg #[.int .i64 0, .int .i64 0, .slice none 0 0], .bool false]) (by simp [results, Try.results39, go_sem, d0, d1, d2]) rfl ⟨_, _, _, rfl, rfl, rfl, rfl, ((k5.out.setCell (Nat.le_refl _) _).setCell (Nat.le_refl _) _).setCell (Nat.le_refl _) _⟩
set_option maxRecDepth 100000 in
theorem rread_f2c (A : Option Addr) (N L : Nat) (l : List UInt8) (w : World) (hr : Rd w L A (W.bc l)) (hL : L ≤ w.heap.size) (hN : N = l.length) (hm : N ≤ maxLen) (hl : N ≤ 4398046511104) (p q : Int) (hI : W.decI l = ([p, q], N, 0)) (hE : (W.decB []).2.2 ≠ 0) :
  Calls Try.prog 39 #[.slice A N N] w (RRn w) := by
 have HR := Lib.hid hr; clear hr
 have HN := Lib.hid hN; clear hN
 go_enter Try.func39, Try.ntmps39
 go_wp2_with fail
 generalize hW1 : w.alloc (.cells _ 43) = w1
 obtain ⟨hx, k0⟩ := box1 hW1
 have hR1 := HR.out.below k0 hL
 have hL1 : L ≤ w1.heap.size := Nat.le_trans hL k0.size
 refine (rgetints_any l A N N L w1 hR1 hL1 HN.out (Nat.le_refl _) hm hl).mono ?_
 rintro e w2 ⟨v1, rfl, hown, k2⟩
 have hx2 := hx.below k2
 have k4 := Lib.hid (Blw k0 k2)
 have hL2 : L ≤ w2.heap.size := Nat.le_trans hL1 k2.size
 clear hW1 hx k0 HR hR1 k2
 rw [hI] at hown ⊢
 obtain ⟨g, k1, rfl, -⟩ := own_pos hown (by simp)
 have HI := Lib.hid hI; clear hI hown
 simp only [List.length_cons, List.length_nil, Nat.reduceAdd]
 unfold maxLen at hm
 go_wp2_with fail
 refine (rgetbytes_b [] _ _ _ L w2 (Rd.nil _ _ _) hL2 (by simp) (by omega) (by decide) (by decide) ⟨(W.decB []).1.toArray⟩ (W.decB []).2.1 (W.decB []).2.2 rfl).mono ?_
 rintro e w3 ⟨rfl, k3⟩
 have hx3 := hx2.below k3
 have k5 := Lib.hid (Blw k4.out k3)
 clear k3 hx2 k4
 generalize (W.decB []).2.2 = er at *
 generalize (W.decB []).2.1 = mm at *
 generalize (W.decB []).1 = xx at *
 have hd : (er == 0) = false := beq_eq_false_iff_ne.2 hE
 have hd2 : (er != 0) = true := by rw [bne, hd]; rfl
 clear hE
 obtain ⟨c0, c1, c2, z0, z1⟩ := f3 hx3
 go_wp2
 have hz := ((hx3.set_ 0 (.int .i64 0)).set_ 1 (.int .i64 0)).set_ 2 (.slice none 0 0)
 obtain ⟨d0, d1, d2, -, -⟩ := f3 hz
 refine bodyPost_ret (v := .tuple #[.agg #[.int .i64 0, .int .i64 0, .slice none 0 0], .bool false]) (by simp [results, Try.results39, go_sem, d0, d1, d2]) rfl ⟨_, _, _, rfl, rfl, rfl, rfl, ((k5.out.setCell (Nat.le_refl _) _).setCell (Nat.le_refl _) _).setCell (Nat.le_refl _) _⟩
set_option maxRecDepth 100000 in
theorem rread_f2b (A : Option Addr) (c L : Nat) (l : List UInt8) (w : World) (hr : Rd w L A (W.bc l)) (hL : L ≤ w.heap.size) (hc : l.length ≤ c) (hm : c ≤ maxLen) (hl : l.length ≤ 4398046511104) (p q : Int) (nn : Nat) (hI : W.decI l = ([p, q], nn, 0)) (s : List UInt8) (mm : Nat) (hJ : W.decB (l.drop nn) = (s, mm, 0)) (hcn : ¬ c = nn) (hE : nn + mm ≠ l.length) :
  Calls Try.prog 39 #[.slice A l.length c] w (RRn w) := by
 have HR := Lib.hid hr; clear hr
 go_enter Try.func39, Try.ntmps39
 go_wp2_with fail
 generalize hW1 : w.alloc (.cells _ 43) = w1
 obtain ⟨hx, k2⟩ := box1 hW1
 have hR1 := HR.out.below k2 hL
 have hL1 : L ≤ w1.heap.size := Nat.le_trans hL k2.size
 refine (rgetints_any l A l.length c L w1 hR1 hL1 rfl hc hm (by omega)).mono ?_
 rintro e w2 ⟨v1, rfl, hown, k0⟩
 have hx2 := hx.below k0
 have hR2 := Lib.hid (hR1.below k0 hL1)
 have k4 := Lib.hid (Blw k2 k0)
 have hL2 : L ≤ w2.heap.size := Nat.le_trans hL1 k0.size
 clear hW1 hx k2 HR hR1 k0
 rw [hI] at hown ⊢
 have hcan := W.decL_canon W.codec_int l (by show (W.decI l).2.2 = 0; rw [hI])
 change (∀ x ∈ (W.decI l).1, W.Is64 x) ∧ (W.decI l).2.1 ≤ l.length ∧ _ at hcan
 rw [hI] at hcan
 have hnl : nn ≤ l.length := hcan.2.1
 clear hcan
 obtain ⟨g, k1, rfl, -⟩ := own_pos hown (by simp)
 have hown2 : w2.ownsRow w1.heap.size 3 1 (.slice (some ⟨g, 0, none⟩) 2 k1) 2 (ic [p, q]) := hown
 have HO := Lib.hid hown2; clear hown hown2
 have hcut := HR2c hR2.out hL2 hc nn
 have HI := Lib.hid hI; clear hI
 simp only [List.length_cons, List.length_nil, Nat.reduceAdd]
 unfold maxLen at hm
 have hcan := W.decB_canon (l.drop nn) (by rw [hJ])
 rw [hJ] at hcan
 have hml : mm ≤ (l.drop nn).length := hcan.2.1
 rw [List.length_drop] at hml
 clear hcan
 have hT : W.decT (l.drop nn) = (⟨s.toArray⟩, mm, 0) := by unfold W.decT; rw [hJ]
 have HT := Lib.hid hT; clear hT
 have HJ := Lib.hid hJ; clear hJ
 go_wp2_with fail
 refine (rgetbytes_b (l.drop nn) _ _ _ L w2 (by simpa [hcn] using hcut) hL2 (by simp) (by omega) (by unfold maxLen; omega) (by omega) _ _ _ HT.out).mono ?_
 rintro e w3 ⟨rfl, k3⟩
 have hx3 := hx2.below k3
 have k5 := Lib.hid (Blw k4.out k3)
 clear k3 hx2 k4 hcut HO
 have hd : ((nn : Int) + (mm : Int) == (l.length : Int)) = false := beq_eq_false_iff_ne.2 (by omega)
 have hd2 : ((nn : Int) + (mm : Int) != (l.length : Int)) = true := by rw [bne, hd]; rfl
 clear hE
 obtain ⟨c0, c1, c2, z0, z1⟩ := f3 hx3
 go_wp2
 have hz := ((hx3.set_ 0 (.int .i64 0)).set_ 1 (.int .i64 0)).set_ 2 (.slice none 0 0)
 obtain ⟨d0, d1, d2, -, -⟩ := f3 hz
 refine bodyPost_ret (v := .tuple #[.agg #[.int .i64 0, .int .i64 0, .slice none 0 0], .bool false]) (by simp [results, Try.results39, go_sem, d0, d1, d2]) rfl ⟨_, _, _, rfl, rfl, rfl, rfl, ((k5.out.setCell (Nat.le_refl _) _).setCell (Nat.le_refl _) _).setCell (Nat.le_refl _) _⟩
theorem op_rpk3 {o : Oper} {a : Act} {wx : World} {x y z : Operand} {p q : Int} {s : List UInt8} (ho : o.op = .build 43 #[(0, x), (1, y), (2, z)]) (hx : a.eval x = .int .i64 p) (hy : a.eval y = .int .i64 q) (hz : SY s wx (a.eval z)) : Does Try.prog o (SPk p q s) false a wx := by
 obtain ⟨A, c, e3, r⟩ := hz
 have h : ∀ ρ : Operand → Value, ρ x = .int .i64 p → ρ y = .int .i64 q → ρ z = .slice A s.length c → (execOp ρ o).run Try.prog wx = .ok (.value (.agg #[.int .i64 p, .int .i64 q, .slice A s.length c])) wx := by
  intro ρ e1 e2 e3; simp [execOp, ho, e1, e2, e3, go_sem]
 exact Does.val (h _ hx hy e3) ⟨_, rfl, A, c, rfl, r⟩
set_option maxRecDepth 100000 in
theorem rread_g (A : Option Addr) (c L : Nat) (l : List UInt8) (w : World) (hr : Rd w L A (W.bc l)) (hL : L ≤ w.heap.size) (hc : l.length ≤ c) (hm : c ≤ maxLen) (hl : l.length ≤ 4398046511104) (p q : Int) (nn : Nat) (hI : W.decI l = ([p, q], nn, 0)) (s : List UInt8) (mm : Nat) (hJ : W.decB (l.drop nn) = (s, mm, 0)) (hcn : ¬ c = nn) (hE : nn + mm = l.length) (r : Option (Int × Int × List UInt8)) (hrr : r = if K.okP p q s.length then some (p, q, s) else none) :
  Calls Try.prog 39 #[.slice A l.length c] w (RRd r w) := by
 have HR := Lib.hid hr; clear hr
 have HRR := Lib.hid hrr; clear hrr
 go_enter Try.func39, Try.ntmps39
 go_wp2_with fail
 generalize hW1 : w.alloc (.cells _ 43) = w1
 obtain ⟨hx, k6⟩ := box1 hW1
 have hR1 := HR.out.below k6 hL
 have hL1 : L ≤ w1.heap.size := Nat.le_trans hL k6.size
 refine (rgetints_any l A l.length c L w1 hR1 hL1 rfl hc hm (by omega)).mono ?_
 rintro e w2 ⟨v1, rfl, hown, k4⟩
 have hx2 := hx.below k4
 have hR2 := Lib.hid (hR1.below k4 hL1)
 have k8 := Lib.hid (Blw k6 k4)
 have hL2 : L ≤ w2.heap.size := Nat.le_trans hL1 k4.size
 clear hW1 hx k6 HR hR1 k4
 rw [hI] at hown ⊢
 have hcan := W.decL_canon W.codec_int l (by show (W.decI l).2.2 = 0; rw [hI])
 change (∀ x ∈ (W.decI l).1, W.Is64 x) ∧ (W.decI l).2.1 ≤ l.length ∧ _ at hcan
 rw [hI] at hcan
 have hnl : nn ≤ l.length := hcan.2.1
 clear hcan
 obtain ⟨g, k1, rfl, -⟩ := own_pos hown (by simp)
 have hown2 : w2.ownsRow w1.heap.size 3 1 (.slice (some ⟨g, 0, none⟩) 2 k1) 2 (ic [p, q]) := hown
 have HO := Lib.hid hown2; clear hown hown2
 have hcut := HR2c hR2.out hL2 hc nn
 have HI := Lib.hid hI; clear hI
 simp only [List.length_cons, List.length_nil, Nat.reduceAdd]
 unfold maxLen at hm
 have hcan := W.decB_canon (l.drop nn) (by rw [hJ])
 rw [hJ] at hcan
 have hml : mm ≤ (l.drop nn).length := hcan.2.1
 rw [List.length_drop] at hml
 have hsl : s.length ≤ 4611686018427387904 := by
  have h1 := congrArg List.length hcan.2.2
  simp [W.encB] at h1
  omega
 clear hcan
 have hT : W.decT (l.drop nn) = (⟨s.toArray⟩, mm, 0) := by unfold W.decT; rw [hJ]
 have HT := Lib.hid hT; clear hT
 have HJ := Lib.hid hJ; clear hJ
 go_wp2_with fail
 refine (rgetbytes_b (l.drop nn) _ _ _ L w2 (by simpa [hcn] using hcut) hL2 (by simp) (by omega) (by unfold maxLen; omega) (by omega) _ _ _ HT.out).mono ?_
 rintro e w3 ⟨rfl, k5⟩
 have hx3 := hx2.below k5
 have k7 := Lib.hid (Blw k8.out k5)
 have k9 := own_cells (own_below HO.out k5)
 have HC := Lib.hid (fun (wx : World) (h : Below w3.heap.size w3 wx) => read_cells k9 ((own_below HO.out k5).lt g rfl).2 h)
 clear k5 hx2 k8 hcut HO k9
 have hd : ((nn : Int) + (mm : Int) == (l.length : Int)) = true := beq_iff_eq.2 (by omega)
 have hd2 : ((nn : Int) + (mm : Int) != (l.length : Int)) = false := by rw [bne, hd]; rfl
 have HE := Lib.hid hE; clear hE
 go_wp2_with fail
 go_upto_region 7 with fail
 generalize hW_7 : w3.drew = W_7
 refine gen_act ?_
 intro F_ hF_
 have ev4 : F_.eval (.tmp 4) = .slice (some ⟨g, 0, none⟩) 2 k1 := by rw [← hF_]; rfl
 have ev7 : F_.eval (.tmp 7) = .string ⟨s.toArray⟩ := by rw [← hF_]; rfl
 have hsz_ : ∀ d ∈ ([(45, []), (46, [0]), (47, [1]), (48, []), (49, [3]), (50, [4]), (51, []), (52, [6]), (53, [2, 5, 7]), (10, [])] : List (Nat × List Nat)).map (·.1), d < F_.tmps.size := by rw [← hF_]; simp
 have HF_ := Lib.hid hF_; clear hF_
 refine wp_flow_tab true hW_7 10 [(45, []), (46, [0]), (47, [1]), (48, []), (49, [3]), (50, [4]), (51, []), (52, [6]), (53, [2, 5, 7]), (10, [])] [SC (.slice (some ⟨g, 0, none⟩) 2 k1), SC (.pointer (some ⟨g, 0, none⟩)), SC (.int .i64 p), SC (.slice (some ⟨g, 0, none⟩) 2 k1), SC (.pointer (some ⟨g, 1, none⟩)), SC (.int .i64 q), SC (.string ⟨s.toArray⟩), SY s, SPk p q s, SB W_7 43 [.int .i64 0, .int .i64 0, .slice none 0 0]] [false, false, false, false, false, false, false, false, false, true] (by kernel_rfl) (by kernel_rfl) (by kernel_rfl) (by kernel_rfl) (by kernel_rfl) hsz_ ⟨SC.mono _, SC.mono _, SC.mono _, SC.mono _, SC.mono _, SC.mono _, SC.mono _, SY.mono _, SPk.mono _ _ _, SB.mono _ _ _, trivial⟩ ?_ ?_
 ·intro kq hkq a wx hB hp hs
  have hBo : Below w3.heap.size w3 wx := dB hW_7 hB
  have hcase : kq = 0 ∨ kq = 1 ∨ kq = 2 ∨ kq = 3 ∨ kq = 4 ∨ kq = 5 ∨ kq = 6 ∨ kq = 7 ∨ kq = 8 ∨ kq = 9 := by omega
  rcases hcase with rfl | rfl | rfl | rfl | rfl | rfl | rfl | rfl | rfl | rfl
  ·clear hp
   exact ⟨_, rfl, op_mv (s := SC _) rfl ((hs 4 rfl).trans ev4)⟩
  ·obtain ⟨k2, -⟩ := hp
   have e0 : a.eval (.tmp 45) = .slice (some ⟨g, 0, none⟩) 2 k1 := k2
   simp [Act.eval] at e0
   exact ⟨_, rfl, Does.val (by simp [execOp, Act.eval, e0, go_sem]) rfl⟩
  ·obtain ⟨k2, -⟩ := hp
   obtain ⟨q0, q1⟩ := HC.out wx hBo
   have e0 : a.eval (.tmp 46) = .pointer (some ⟨g, 0, none⟩) := k2
   simp [Act.eval] at e0
   exact ⟨_, rfl, Does.val (by simp [execOp, Act.eval, e0, go_sem, q0]) rfl⟩
  ·clear hp
   exact ⟨_, rfl, op_mv (s := SC _) rfl ((hs 4 rfl).trans ev4)⟩
  ·obtain ⟨k2, -⟩ := hp
   have e0 : a.eval (.tmp 48) = .slice (some ⟨g, 0, none⟩) 2 k1 := k2
   simp [Act.eval] at e0
   exact ⟨_, rfl, Does.val (by simp [execOp, Act.eval, e0, go_sem, Addr.add_lit]) rfl⟩
  ·obtain ⟨k2, -⟩ := hp
   obtain ⟨q0, q1⟩ := HC.out wx hBo
   have e0 : a.eval (.tmp 49) = .pointer (some ⟨g, 1, none⟩) := k2
   simp [Act.eval] at e0
   exact ⟨_, rfl, Does.val (by simp [execOp, Act.eval, e0, go_sem, q1]) rfl⟩
  ·clear hp
   exact ⟨_, rfl, op_mv (s := SC _) rfl ((hs 7 rfl).trans ev7)⟩
  ·obtain ⟨k2, -⟩ := hp
   exact ⟨_, rfl, op_conv rfl k2 hsl⟩
  ·obtain ⟨k2, kc, kd, -⟩ := hp
   exact ⟨_, rfl, op_rpk3 rfl k2 kc kd⟩
  ·clear hp
   exact ⟨_, rfl, Does.box (by simp [execOp, go_sem]) hB⟩
 ·intro val wx hB hsp hdis
  have hBo : Below w3.heap.size w3 wx := dB hW_7 hB
  obtain ⟨u8, e8, h8⟩ := hsp 8 (by omega)
  obtain ⟨g9, e9, hg9, hx9⟩ := hsp 9 (by omega)
  rw [← hW_7] at hg9; replace hg9 : w3.heap.size ≤ g9 := hg9
  rw [← HF_.out]
  change wpList _ _ _ [_] _ _
  simp only [puts_consT, puts_nilm, vals, List.map_cons, List.map_nil, Nat.zero_add, Nat.reduceAdd, e8, e9, List.setIfInBounds_toArray, List.set_cons_succ, List.set_cons_zero]
  clear hsp hdis HF_ hsz_ hB hW_7 e8 e9 ev4 ev7
  have HB := Lib.hid (Blw k7.out hBo)
  have hx0 := hx3.below hBo
  obtain ⟨A8, c8, rfl, hr8⟩ := h8
  have H8 := Lib.hid hr8
  have hgz : w.heap.size ≤ g9 := by have := k7.out.size; omega
  have hg0 := hx0.lt
  have hne : w.heap.size ≠ g9 := by have := hx3.lt; omega
  clear hBo hx3 hr8 k7 HC hg9
  obtain ⟨c0, c1, c2, z0, z1⟩ := f3 hx9
  go_upto_region 8 with fail
  generalize hW9 : ((wx.setCell _ _).setCell _ _).setCell _ _ = W9
  have hk9 : KB wx W9 := by
   rw [← hW9]
   exact (((KB.refl _).set_ hx9 (by decide) _).set_ (hx9.set_ 0 (.int .i64 p)) (by decide) _).set_ ((hx9.set_ 0 (.int .i64 p)).set_ 1 (.int .i64 q)) (by decide) _
  have y9 : Bx W9 g9 43 [.int .i64 p, .int .i64 q, .slice A8 s.length c8] := by
   rw [← hW9]
   exact ((hx9.set_ 0 (.int .i64 p)).set_ 1 (.int .i64 q)).set_ 2 _
  have y0 : Bx W9 w.heap.size 43 [.int .i64 0, .int .i64 0, .slice none 0 0] := by
   rw [← hW9]
   exact ((hx0.far_ hne _).far_ hne _).far_ hne _
  have k3 : Hid (Below w.heap.size w W9) := by
   rw [← hW9]
   exact Lib.hid (((HB.out.setCell hgz _).setCell hgz _).setCell hgz _)
  have H9 : Hid (BV W9 (.slice A8 s.length c8) s) := Lib.hid (BV.kb ⟨A8, c8, rfl, H8.out⟩ hk9)
  clear hk9 hW9 hx9 hx0 HB H8 c0 c1 c2 z0 z1
  obtain ⟨n8, hn8⟩ : ∃ n, n = s.length := ⟨_, rfl⟩
  have HOKP := Lib.hid (show 0 ≤ p ∧ 0 ≤ q ∧ n8 ≤ 65536 ∧ (0 < p ∨ n8 = 0) → K.okP p q s.length from fun h => hn8 ▸ h)
  have HOKN := Lib.hid (show K.okP p q s.length → ¬ (0 ≤ p ∧ 0 ≤ q ∧ n8 ≤ 65536 ∧ (0 < p ∨ n8 = 0)) → False from fun h1 h2 => h2 (hn8 ▸ h1))
  rw [← hn8] at H9 y9
  have hn8u : n8 ≤ 4611686018427387904 := by omega
  clear hn8 hsl
  obtain ⟨c0, c1, c2, z0, z1⟩ := f3 y9
  obtain ⟨d0, d1, d2, z2, z3⟩ := f3 y0
  by_cases h1 : 0 ≤ p
  ·by_cases h2 : 0 ≤ q
   ·by_cases h3 : n8 ≤ 65536
    ·have h3i : (n8 : Int) ≤ 65536 := by omega
     by_cases h4 : 0 < p
     ·go_wp2
      have hz := ((y0.set_ 0 (.int .i64 p)).set_ 1 (.int .i64 q)).set_ 2 (.slice A8 n8 c8)
      have hk : KB W9 (((W9.setCell ⟨w.heap.size, 0, none⟩ (.int .i64 p)).setCell ⟨w.heap.size, 1, none⟩ (.int .i64 q)).setCell ⟨w.heap.size, 2, none⟩ (.slice A8 n8 c8)) := (((KB.refl _).set_ y0 (by decide) _).set_ (y0.set_ 0 (.int .i64 p)) (by decide) _).set_ ((y0.set_ 0 (.int .i64 p)).set_ 1 (.int .i64 q)) (by decide) _
      obtain ⟨r0, r1, r2, -, -⟩ := f3 hz
      rw [HRR.out, if_pos (HOKP.out ⟨h1, h2, h3, .inl h4⟩)]
      refine bodyPost_ret (v := .tuple #[.agg #[.int .i64 p, .int .i64 q, .slice A8 n8 c8], .bool true]) (by simp [results, Try.results39, go_sem, r0, r1, r2]) rfl ⟨_, rfl, H9.out.kb hk, ?_⟩
      exact ((k3.out.setCell (Nat.le_refl _) _).setCell (Nat.le_refl _) _).setCell (Nat.le_refl _) _
     ·by_cases h5 : n8 = 0
      ·have h5i : ((n8 : Int) == 0) = true := beq_iff_eq.2 (by omega)
       have HN0 := Lib.hid h5; clear h5
       go_wp2
       have hz := ((y0.set_ 0 (.int .i64 p)).set_ 1 (.int .i64 q)).set_ 2 (.slice A8 n8 c8)
       have hk : KB W9 (((W9.setCell ⟨w.heap.size, 0, none⟩ (.int .i64 p)).setCell ⟨w.heap.size, 1, none⟩ (.int .i64 q)).setCell ⟨w.heap.size, 2, none⟩ (.slice A8 n8 c8)) := (((KB.refl _).set_ y0 (by decide) _).set_ (y0.set_ 0 (.int .i64 p)) (by decide) _).set_ ((y0.set_ 0 (.int .i64 p)).set_ 1 (.int .i64 q)) (by decide) _
       obtain ⟨r0, r1, r2, -, -⟩ := f3 hz
       rw [HRR.out, if_pos (HOKP.out ⟨h1, h2, h3, .inr HN0.out⟩)]
       refine bodyPost_ret (v := .tuple #[.agg #[.int .i64 p, .int .i64 q, .slice A8 n8 c8], .bool true]) (by simp [results, Try.results39, go_sem, r0, r1, r2]) rfl ⟨_, rfl, H9.out.kb hk, ?_⟩
       exact ((k3.out.setCell (Nat.le_refl _) _).setCell (Nat.le_refl _) _).setCell (Nat.le_refl _) _
      ·have h5i : ((n8 : Int) == 0) = false := beq_eq_false_iff_ne.2 (by omega)
       have HN0 := Lib.hid h5; clear h5
       go_wp2
       have hz := ((y0.set_ 0 (.int .i64 0)).set_ 1 (.int .i64 0)).set_ 2 (.slice none 0 0)
       obtain ⟨r0, r1, r2, -, -⟩ := f3 hz
       rw [HRR.out, if_neg (fun h => HOKN.out h (by have := HN0.out; omega))]
       refine bodyPost_ret (v := .tuple #[.agg #[.int .i64 0, .int .i64 0, .slice none 0 0], .bool false]) (by simp [results, Try.results39, go_sem, r0, r1, r2]) rfl ⟨_, _, _, rfl, rfl, rfl, rfl, ?_⟩
       exact ((k3.out.setCell (Nat.le_refl _) _).setCell (Nat.le_refl _) _).setCell (Nat.le_refl _) _
    ·have h3i : ¬ (n8 : Int) ≤ 65536 := by omega
     go_wp2
     have hz := ((y0.set_ 0 (.int .i64 0)).set_ 1 (.int .i64 0)).set_ 2 (.slice none 0 0)
     obtain ⟨r0, r1, r2, -, -⟩ := f3 hz
     rw [HRR.out, if_neg (fun h => HOKN.out h (by omega))]
     refine bodyPost_ret (v := .tuple #[.agg #[.int .i64 0, .int .i64 0, .slice none 0 0], .bool false]) (by simp [results, Try.results39, go_sem, r0, r1, r2]) rfl ⟨_, _, _, rfl, rfl, rfl, rfl, ?_⟩
     exact ((k3.out.setCell (Nat.le_refl _) _).setCell (Nat.le_refl _) _).setCell (Nat.le_refl _) _
   ·go_wp2
    have hz := ((y0.set_ 0 (.int .i64 0)).set_ 1 (.int .i64 0)).set_ 2 (.slice none 0 0)
    obtain ⟨r0, r1, r2, -, -⟩ := f3 hz
    rw [HRR.out, if_neg (fun h => HOKN.out h (by omega))]
    refine bodyPost_ret (v := .tuple #[.agg #[.int .i64 0, .int .i64 0, .slice none 0 0], .bool false]) (by simp [results, Try.results39, go_sem, r0, r1, r2]) rfl ⟨_, _, _, rfl, rfl, rfl, rfl, ?_⟩
    exact ((k3.out.setCell (Nat.le_refl _) _).setCell (Nat.le_refl _) _).setCell (Nat.le_refl _) _
  ·go_wp2
   have hz := ((y0.set_ 0 (.int .i64 0)).set_ 1 (.int .i64 0)).set_ 2 (.slice none 0 0)
   obtain ⟨r0, r1, r2, -, -⟩ := f3 hz
   rw [HRR.out, if_neg (fun h => HOKN.out h (by omega))]
   refine bodyPost_ret (v := .tuple #[.agg #[.int .i64 0, .int .i64 0, .slice none 0 0], .bool false]) (by simp [results, Try.results39, go_sem, r0, r1, r2]) rfl ⟨_, _, _, rfl, rfl, rfl, rfl, ?_⟩
   exact ((k3.out.setCell (Nat.le_refl _) _).setCell (Nat.le_refl _) _).setCell (Nat.le_refl _) _
/-- Read. -/
theorem rread_any (A : Option Addr) (c L : Nat) (l : List UInt8) (w : World) (hr : Rd w L A (W.bc l)) (hL : L ≤ w.heap.size) (hc : l.length ≤ c) (hm : c ≤ maxLen) (hl : l.length ≤ 4398046511104) :
  Calls Try.prog 39 #[.slice A l.length c] w (RRd (K.read l) w) := by
 rcases hI : W.decI l with ⟨li, nn, er⟩
 by_cases h0 : er = 0
 ·subst h0
  by_cases h2 : li.length = 2
  ·obtain ⟨p, q, rfl⟩ : ∃ p q, li = [p, q] := by
    match li, h2 with
    | [p, q], _ => exact ⟨p, q, rfl⟩
   have hcan := W.decL_canon W.codec_int l (by show (W.decI l).2.2 = 0; rw [hI])
   change (∀ x ∈ (W.decI l).1, W.Is64 x) ∧ (W.decI l).2.1 ≤ l.length ∧ _ at hcan
   rw [hI] at hcan
   have hnl : nn ≤ l.length := hcan.2.1
   rcases hJ : W.decB (l.drop nn) with ⟨s, mm, e2⟩
   have hrd := K.read_eq hI hJ
   by_cases h3 : e2 = 0
   ·subst h3
    have hcb := W.decB_canon (l.drop nn) (by rw [hJ])
    rw [hJ] at hcb
    have hcn : ¬ c = nn := by
     intro h
     have h1 : l.drop nn = [] := List.drop_eq_nil_of_le (by omega)
     have h2 := congrArg List.length hcb.2.2
     rw [h1] at h2
     simp [W.encB] at h2
     have := (W.enc_le (s.length : Int)).1
     omega
    by_cases h4 : nn + mm = l.length
    ·have h9 := rread_g A c L l w hr hL hc hm hl p q nn hI s mm hJ hcn h4 _ rfl
     rw [hrd]
     by_cases h5 : K.okP p q s.length
     ·rw [if_pos h5] at h9
      rw [if_pos ⟨rfl, h4, h5⟩]
      exact h9
     ·rw [if_neg h5] at h9
      rw [if_neg (fun h => h5 h.2.2)]
      exact h9
    ·rw [hrd, if_neg (fun h => h4 h.2.1)]
     exact rread_f2b A c L l w hr hL hc hm hl p q nn hI s mm hJ hcn h4
   ·rw [hrd, if_neg (fun h => h3 h.1)]
    by_cases hcn : c = nn
    ·have hN : c = l.length := by omega
     subst hcn
     have h1 : l.drop c = [] := List.drop_eq_nil_of_le (by omega)
     rw [h1] at hJ
     have h6 := rread_f2c A c L l w hr hL hN hm (by omega) p q hI (by rw [hJ]; exact h3)
     rw [← hN]
     exact h6
    ·exact rread_f2 A c L l w hr hL hc hm hl p q nn hI hcn (by rw [hJ]; exact h3)
  ·have hn : K.read l = none := by
    unfold K.read
    rw [hI, if_pos rfl]
    split
    ·rename_i h; exact absurd (by rw [show li = _ from h]; rfl) h2
    ·rfl
   rw [hn]
   exact rread_f1b A c L l w hr hL hc hm hl (by rw [hI]) (by rw [hI]; exact h2)
 ·have hn : K.read l = none := by
   unfold K.read
   rw [hI, if_neg h0]
  rw [hn]
  exact rread_f1 A c L l w hr hL hc hm hl (by rw [hI]; exact h0)
theorem rread_bv {w : World} {A : Option Addr} {n c : Nat} {l : List UInt8} (h : BV w (.slice A n c) l) (hl : l.length ≤ 4398046511104) : Calls Try.prog 39 #[.slice A n c] w (RRd (K.read l) w) := by
 obtain ⟨rfl, h2, h3, h4⟩ := h.parts
 exact rread_any A c _ l w h4 (Nat.le_refl _) h2 h3 hl
end Go.Proofs.Ytgdibcgphjmofaa
