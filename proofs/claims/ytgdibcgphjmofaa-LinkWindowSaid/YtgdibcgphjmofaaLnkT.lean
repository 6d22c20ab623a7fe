/-
 THE WALK of deliver.
-/
import Derived.Test.YtgdibcgphjmofaaLnkR
namespace Go.Proofs.Ytgdibcgphjmofaa
set_option maxHeartbeats 1000000
open Go.RowKit
open Go.Maps
set_option linter.unusedVariables false
theorem law_int : Keyed Try.prog 3 := int_keyed Try.underlying3
theorem wf64 {k : Int} (h : W.Is64 k) : (Lit.int .i64 k).wf = true := WalkArith.wf_i64 (by unfold W.Is64 at h; omega)
theorem hkey64 {k : Int} (h : W.Is64 k) : keyOf Try.prog 3 (.int .i64 k) = some (.int .i64 k) := keyOf_int_mk Try.underlying3 (wf64 h)
theorem zeroE (w : World) : (zeroValue 33).run Try.prog w = .ok (.slice none 0 0) w := by kernel_rfl
theorem look_some {w : World} {bm n : Nat} {D : DataW Value} {k : Int} {v : Value} (hm : w.ownsMap Try.prog 3 RV bm n D) (hk : W.Is64 k) (h1 : Maps.has D (.int .i64 k) = true) (h2 : D.atKey (.int .i64 k) zd = .held v) :
  (Instr.lookup 63 (.map (some bm)) (.int .i64 k) true).run Try.prog w = .ok (.tuple #[v, .bool true]) w := by
 obtain ⟨v', ps, hr, hv⟩ := hm.look_ok law_int Try.underlying63 (zeroE w) (zd := zd) (zp := []) rfl (hkey64 hk)
 rw [h1] at hr
 unfold RV at hv
 rw [h2] at hv
 injection hv with hv
 injection hv with hv _
 injection hv with hv
 rw [hv] at hr
 exact hr
theorem look_none {w : World} {bm n : Nat} {D : DataW Value} {k : Int} (hm : w.ownsMap Try.prog 3 RV bm n D) (hk : W.Is64 k) (h1 : Maps.has D (.int .i64 k) = false) :
  (Instr.lookup 63 (.map (some bm)) (.int .i64 k) true).run Try.prog w = .ok (.tuple #[.slice none 0 0, .bool false]) w := by
 obtain ⟨v', ps, hr, hv⟩ := hm.look_ok law_int Try.underlying63 (zeroE w) (zd := zd) (zp := []) rfl (hkey64 hk)
 rw [h1] at hr
 unfold RV at hv
 rw [atKey_of_not_has h1] at hv
 injection hv with hv
 injection hv with hv _
 unfold zd at hv
 injection hv with hv
 rw [hv] at hr
 exact hr
theorem map_lower {w : World} {bm n m : Nat} {D : DataW Value} (h : w.ownsMap Try.prog 3 RV bm n D) (hs : Maps.size D ≤ m) : w.ownsMap Try.prog 3 RV bm m D := by
 obtain ⟨es, ck, h1, h2, h3, h4⟩ := h
 refine ⟨es, ck, h1, h2, ?_, h4⟩
 subst h4
 rw [Maps.size_eq, length_read] at hs
 exact hs
theorem HeldIs.del {w : World} {D : DataW Value} {f : Int → Option (List UInt8)} (h : HeldIs w D f) {x : Int} (hx : W.Is64 x) : HeldIs w (D.del (.int .i64 x)) (fun k => if k = x then none else f k) := by
 intro k hk
 by_cases hkx : k = x
 ·subst hkx
  simp only [if_true]
  exact ⟨fun _ => has_del_same, fun l hl => by cases hl⟩
 ·have hne : (Lit.int .i64 k) ≠ (Lit.int .i64 x) := fun e => by injection e with _ e; exact hkx e
  simp only [if_neg hkx]
  rw [has_del_other hne, atKey_del_other hne]
  exact h k hk
/-- The messages that are next, and the state behind them. -/
def K.dlv : Nat → K.E → List (List UInt8) × K.E
 | 0, S => ([], S)
 | n + 1, S => match S.held (S.del + 1) with
  | none => ([], S)
  | some l => (l :: (K.dlv n { S with del := S.del + 1, held := fun k => if k = S.del + 1 then none else S.held k, cnt := S.cnt - 1 }).1, (K.dlv n { S with del := S.del + 1, held := fun k => if k = S.del + 1 then none else S.held k, cnt := S.cnt - 1 }).2)
/-- What deliver returns. -/
def RDlv (r : List (List UInt8) × K.E) (b : Nat) (own : List Nat) (w : World) (e : Ending) (w' : World) : Prop := ∃ v, e = .returned v ∧ RowV w.heap.size w' v r.1 ∧ EndAt w' b own r.2 ∧ TT own w w'
theorem K.dlv_none {n : Nat} {S : K.E} (h : S.held (S.del + 1) = none) : K.dlv n S = ([], S) := by
 cases n with
 | zero => rfl
 | succ n => unfold K.dlv; rw [h]
theorem K.dlv_some {n : Nat} {S : K.E} {l : List UInt8} (h : S.held (S.del + 1) = some l) : K.dlv (n + 1) S = (l :: (K.dlv n { S with del := S.del + 1, held := fun k => if k = S.del + 1 then none else S.held k, cnt := S.cnt - 1 }).1, (K.dlv n { S with del := S.del + 1, held := fun k => if k = S.del + 1 then none else S.held k, cnt := S.cnt - 1 }).2) := by
 rw [K.dlv, h]
theorem Tidy.size {D : DataW Value} (h : Tidy D) {k : Lit} (hk : Maps.has D k = true) : Maps.size (D.del k) + 1 = Maps.size D := by
 have := size_del (k := k) h
 rw [hk] at this
 simpa using this
def DlvAt (S : K.E) (b : Nat) (own : List Nat) (w : World) (gk : Nat) (v : Value) (wr : World) : Prop := ∃ (Sk : K.E) (o : List (List UInt8)) (us : List Value), Sk.cnt = gk ∧ EndAt wr b own Sk ∧ K.dlv S.cnt S = (o ++ (K.dlv gk Sk).1, (K.dlv gk Sk).2) ∧
 wr.ownsRow w.heap.size 33 1 v o.length us ∧ Vs wr us o ∧ TT own w wr ∧ 0 ≤ Sk.del ∧ Sk.del + (gk : Int) ≤ 2000000000 ∧ o.length + gk ≤ 1000000000
set_option maxRecDepth 100000 in
theorem deliver_any (b : Nat) (own : List Nat) (S : K.E) (w : World) (h : EndAt w b own S) (hd0 : 0 ≤ S.del) (hd1 : S.del ≤ 1000000000) (hc : S.cnt ≤ 1000000000) :
  Calls Try.prog 38 #[.pointer (some ⟨b, 0, none⟩)] w (RDlv (K.dlv S.cnt S) b own w) := by
 have HS := Lib.hid (show DlvAt S b own w S.cnt (.slice none 0 0) w from ⟨S, [], [], rfl, h, rfl, World.ownsRow_nil _ _ _ _, Vs.nil _, (TT.rel own).refl w, hd0, by omega, by simp; omega⟩)
 have HW := Lib.hid h.lt
 clear h hd0 hd1 hc
 go_enter Try.func38, Try.ntmps38
 go_wp2_with fail
 go_loopg [3] S.cnt (fun gk s3 wr => DlvAt S b own w gk s3 wr)
 case atStart => exact HS.out
 case round =>
  obtain ⟨Sk, o, us, hcnt, hE, hD, hu, hv, hT, hd0, hd1, ho⟩ := hrel
  obtain ⟨rv, vs, bm, D, hx, hown, hvs, hmap, hheld, rfl⟩ := hE
  obtain ⟨A3, c3, rfl, -⟩ := own_form hu
  have hk64 : W.Is64 (Sk.del + 1) := by unfold W.Is64; omega
  have hh := hheld (Sk.del + 1) hk64
  have hw1 : IntKind.i64.wrap (Sk.del + 1) = Sk.del + 1 := by rw [IntKind.wrap_i64]; omega
  have HHE := Lib.hid hheld; have HVS := Lib.hid hvs; have HOW := Lib.hid hown; have HM := Lib.hid hmap
  have HD := Lib.hid hD; have HU := Lib.hid hu; have HV := Lib.hid hv; have HT := Lib.hid hT
  have HCN := Lib.hid hcnt
  have hob : ∀ k, (Value.slice A3 o.length c3).ownBlock = some k → w.heap.size ≤ k := fun k hk => (hu.lt k hk).1
  have HOB := Lib.hid hob
  have hdd : Sk.del ≤ 2000000000 := by omega
  obtain ⟨n3, hn3⟩ : ∃ n, n = o.length := ⟨_, rfl⟩
  rw [← hn3] at HU HOB ho ⊢
  have HN3 := Lib.hid hn3
  clear hD hu hv hT hown hvs hmap hheld hcnt hob hn3
  rcases hf : Sk.held (Sk.del + 1) with _ | l
  ·have hno := hh.1 hf
   have HLK := Lib.hid (fun (wx : World) (hB : Below wr.heap.size wr wx) => look_none (map_tc HM.out (Tc.of hB) (R := []) (by simp)) hk64 hno)
   have HF := Lib.hid hf
   clear hh hno hf
   go_wp2_with fail
   go_upto_region 2 with fail
   generalize hW_2 : wr.drew = W_2
   refine gen_act ?_
   intro F_ hF_
   have ev0 : F_.eval (.tmp 0) = .pointer (some ⟨b, 0, none⟩) := by rw [← hF_]; rfl
   have hsz_ : ∀ d ∈ ([(7, []), (8, [0]), (9, [1]), (10, [2]), (11, []), (12, [4]), (13, [5]), (14, [6]), (15, [7]), (16, [3, 8]), (6, [9]), (17, [10]), (18, [10]), (4, [11]), (5, [12])] : List (Nat × List Nat)).map (·.1), d < F_.tmps.size := by rw [← hF_]; simp
   have HF_ := Lib.hid hF_; clear hF_
   refine wp_flow_tab true hW_2 15 [(7, []), (8, [0]), (9, [1]), (10, [2]), (11, []), (12, [4]), (13, [5]), (14, [6]), (15, [7]), (16, [3, 8]), (6, [9]), (17, [10]), (18, [10]), (4, [11]), (5, [12])] [SC (.pointer (some ⟨b, 0, none⟩)), SC (.pointer (some ⟨b, 0, none⟩)), SC (.pointer (some ⟨b, 5, none⟩)), SC (.map (some bm)), SC (.pointer (some ⟨b, 0, none⟩)), SC (.pointer (some ⟨b, 0, none⟩)), SC (.pointer (some ⟨b, 4, none⟩)), SC (.int .i64 Sk.del), SC (.int .i64 (Sk.del + 1)), SC (.tuple #[.slice none 0 0, .bool false]), SC (.tuple #[.slice none 0 0, .bool false]), SC (.slice none 0 0), SC (.bool false), SC (.slice none 0 0), SC (.bool false)] [false, false, false, false, false, false, false, false, false, false, false, false, false, false, false] (by kernel_rfl) (by kernel_rfl) (by kernel_rfl) (by kernel_rfl) (by kernel_rfl) hsz_ ⟨SC.mono _, SC.mono _, SC.mono _, SC.mono _, SC.mono _, SC.mono _, SC.mono _, SC.mono _, SC.mono _, SC.mono _, SC.mono _, SC.mono _, SC.mono _, SC.mono _, SC.mono _, trivial⟩ ?_ ?_
   ·intro kq hkq a wx hB hp hs
    have hBo : Below wr.heap.size wr wx := dB hW_2 hB
    have hcase : kq = 0 ∨ kq = 1 ∨ kq = 2 ∨ kq = 3 ∨ kq = 4 ∨ kq = 5 ∨ kq = 6 ∨ kq = 7 ∨ kq = 8 ∨ kq = 9 ∨ kq = 10 ∨ kq = 11 ∨ kq = 12 ∨ kq = 13 ∨ kq = 14 := by omega
    rcases hcase with rfl | rfl | rfl | rfl | rfl | rfl | rfl | rfl | rfl | rfl | rfl | rfl | rfl | rfl | rfl
    ·clear hp
     exact ⟨_, rfl, op_mv (s := SC _) rfl ((hs 0 rfl).trans ev0)⟩
    ·obtain ⟨k0, -⟩ := hp
     exact ⟨_, rfl, op_nil rfl k0⟩
    ·obtain ⟨k0, -⟩ := hp
     exact ⟨_, rfl, fa_link_End_5 rfl k0⟩
    ·obtain ⟨k0, -⟩ := hp
     exact ⟨_, rfl, ld_map_int___uint8 rfl k0 (hx.below hBo) rfl⟩
    ·clear hp
     exact ⟨_, rfl, op_mv (s := SC _) rfl ((hs 0 rfl).trans ev0)⟩
    ·obtain ⟨k0, -⟩ := hp
     exact ⟨_, rfl, op_nil rfl k0⟩
    ·obtain ⟨k0, -⟩ := hp
     exact ⟨_, rfl, fa_link_End_4 rfl k0⟩
    ·obtain ⟨k0, -⟩ := hp
     exact ⟨_, rfl, ld_int rfl k0 (hx.below hBo) rfl⟩
    ·obtain ⟨k0, -⟩ := hp
     have e0 : a.eval (.tmp 14) = .int .i64 Sk.del := k0
     simp [Act.eval] at e0
     exact ⟨_, rfl, Does.val (by simp [execOp, Act.eval, e0, go_sem, hw1]) rfl⟩
    ·obtain ⟨k0, k1, -⟩ := hp
     have e0 : a.eval (.tmp 10) = .map (some bm) := k0
     simp [Act.eval] at e0
     have e1 : a.eval (.tmp 15) = .int .i64 (Sk.del + 1) := k1
     simp [Act.eval] at e1
     exact ⟨_, rfl, Does.val (by simp [execOp, Act.eval, e0, e1, go_sem, HLK.out wx hBo]) rfl⟩
    ·obtain ⟨k0, -⟩ := hp
     exact ⟨_, rfl, op_mv (s := SC _) rfl k0⟩
    ·obtain ⟨k0, -⟩ := hp
     have e0 : a.eval (.tmp 6) = .tuple #[.slice none 0 0, .bool false] := k0
     simp [Act.eval] at e0
     exact ⟨_, rfl, Does.val (by simp [execOp, Act.eval, e0, go_sem]) rfl⟩
    ·obtain ⟨k0, -⟩ := hp
     have e0 : a.eval (.tmp 6) = .tuple #[.slice none 0 0, .bool false] := k0
     simp [Act.eval] at e0
     exact ⟨_, rfl, Does.val (by simp [execOp, Act.eval, e0, go_sem]) rfl⟩
    ·obtain ⟨k0, -⟩ := hp
     exact ⟨_, rfl, op_as (s := SC _) rfl k0⟩
    ·obtain ⟨k0, -⟩ := hp
     exact ⟨_, rfl, op_as (s := SC _) rfl k0⟩
   ·intro val wx hB hsp hdis
    have hBo : Below wr.heap.size wr wx := dB hW_2 hB
    have e13 : val 13 = .slice none 0 0 := hsp 13 (by omega)
    have e14 : val 14 = .bool false := hsp 14 (by omega)
    rw [← HF_.out]
    change wpList _ _ _ [] _ _
    simp only [puts_consT, puts_nilm, vals, List.map_cons, List.map_nil, Nat.zero_add, Nat.reduceAdd, e13, e14, List.setIfInBounds_toArray, List.set_cons_succ, List.set_cons_zero]
    clear hsp hdis HF_ hsz_ hB hW_2 e13 e14 ev0
    have HTX := Lib.hid ((TT.rel _).trans HT.out ⟨Tc.of hBo, KB.of hBo⟩)
    have HBO := Lib.hid hBo
    clear hBo
    go_wp2
    go_ret
    have hz : K.dlv gk Sk = ([], Sk) := K.dlv_none HF.out
    have hd := HD.out
    rw [hz, List.append_nil] at hd
    rw [hd]
    refine ⟨_, rfl, RowV.of (own_below HU.out HBO.out) (HV.out.kb (.of HBO.out)), EndAt.below ⟨rv, vs, bm, D, hx, HOW.out, HVS.out, HM.out, HHE.out, rfl⟩ HBO.out, HTX.out⟩
  ·obtain ⟨hyes, v0, ha0, hbv0⟩ := hh.2 l hf
   have HM5s : Maps.size D ≤ Sk.cnt := HM.out.size_le
   have hsd := Tidy.size (HM.out.tidy law_int) hyes
   have HLK := Lib.hid (fun (wx : World) (hB : Below wr.heap.size wr wx) => look_some (map_tc HM.out (Tc.of hB) (R := []) (by simp)) hk64 hyes ha0)
   have HF := Lib.hid hf
   have HBV := Lib.hid hbv0
   clear hh hf ha0 hbv0 hyes
   obtain ⟨A0, n0, c0, rfl⟩ : ∃ A n c, v0 = .slice A n c := by obtain ⟨A, c, h, _⟩ := HBV.out; exact ⟨_, _, _, h⟩
   go_wp2_with fail
   go_upto_region 2 with fail
   generalize hW_2 : wr.drew = W_2
   refine gen_act ?_
   intro F_ hF_
   have ev0 : F_.eval (.tmp 0) = .pointer (some ⟨b, 0, none⟩) := by rw [← hF_]; rfl
   have hsz_ : ∀ d ∈ ([(7, []), (8, [0]), (9, [1]), (10, [2]), (11, []), (12, [4]), (13, [5]), (14, [6]), (15, [7]), (16, [3, 8]), (6, [9]), (17, [10]), (18, [10]), (4, [11]), (5, [12])] : List (Nat × List Nat)).map (·.1), d < F_.tmps.size := by rw [← hF_]; simp
   have HF_ := Lib.hid hF_; clear hF_
   refine wp_flow_tab true hW_2 15 [(7, []), (8, [0]), (9, [1]), (10, [2]), (11, []), (12, [4]), (13, [5]), (14, [6]), (15, [7]), (16, [3, 8]), (6, [9]), (17, [10]), (18, [10]), (4, [11]), (5, [12])] [SC (.pointer (some ⟨b, 0, none⟩)), SC (.pointer (some ⟨b, 0, none⟩)), SC (.pointer (some ⟨b, 5, none⟩)), SC (.map (some bm)), SC (.pointer (some ⟨b, 0, none⟩)), SC (.pointer (some ⟨b, 0, none⟩)), SC (.pointer (some ⟨b, 4, none⟩)), SC (.int .i64 Sk.del), SC (.int .i64 (Sk.del + 1)), SC (.tuple #[.slice A0 n0 c0, .bool true]), SC (.tuple #[.slice A0 n0 c0, .bool true]), SC (.slice A0 n0 c0), SC (.bool true), SC (.slice A0 n0 c0), SC (.bool true)] [false, false, false, false, false, false, false, false, false, false, false, false, false, false, false] (by kernel_rfl) (by kernel_rfl) (by kernel_rfl) (by kernel_rfl) (by kernel_rfl) hsz_ ⟨SC.mono _, SC.mono _, SC.mono _, SC.mono _, SC.mono _, SC.mono _, SC.mono _, SC.mono _, SC.mono _, SC.mono _, SC.mono _, SC.mono _, SC.mono _, SC.mono _, SC.mono _, trivial⟩ ?_ ?_
   ·intro kq hkq a wx hB hp hs
    have hBo : Below wr.heap.size wr wx := dB hW_2 hB
    have hcase : kq = 0 ∨ kq = 1 ∨ kq = 2 ∨ kq = 3 ∨ kq = 4 ∨ kq = 5 ∨ kq = 6 ∨ kq = 7 ∨ kq = 8 ∨ kq = 9 ∨ kq = 10 ∨ kq = 11 ∨ kq = 12 ∨ kq = 13 ∨ kq = 14 := by omega
    rcases hcase with rfl | rfl | rfl | rfl | rfl | rfl | rfl | rfl | rfl | rfl | rfl | rfl | rfl | rfl | rfl
    ·clear hp
     exact ⟨_, rfl, op_mv (s := SC _) rfl ((hs 0 rfl).trans ev0)⟩
    ·obtain ⟨k0, -⟩ := hp
     exact ⟨_, rfl, op_nil rfl k0⟩
    ·obtain ⟨k0, -⟩ := hp
     exact ⟨_, rfl, fa_link_End_5 rfl k0⟩
    ·obtain ⟨k0, -⟩ := hp
     exact ⟨_, rfl, ld_map_int___uint8 rfl k0 (hx.below hBo) rfl⟩
    ·clear hp
     exact ⟨_, rfl, op_mv (s := SC _) rfl ((hs 0 rfl).trans ev0)⟩
    ·obtain ⟨k0, -⟩ := hp
     exact ⟨_, rfl, op_nil rfl k0⟩
    ·obtain ⟨k0, -⟩ := hp
     exact ⟨_, rfl, fa_link_End_4 rfl k0⟩
    ·obtain ⟨k0, -⟩ := hp
     exact ⟨_, rfl, ld_int rfl k0 (hx.below hBo) rfl⟩
    ·obtain ⟨k0, -⟩ := hp
     have e0 : a.eval (.tmp 14) = .int .i64 Sk.del := k0
     simp [Act.eval] at e0
     exact ⟨_, rfl, Does.val (by simp [execOp, Act.eval, e0, go_sem, hw1]) rfl⟩
    ·obtain ⟨k0, k1, -⟩ := hp
     have e0 : a.eval (.tmp 10) = .map (some bm) := k0
     simp [Act.eval] at e0
     have e1 : a.eval (.tmp 15) = .int .i64 (Sk.del + 1) := k1
     simp [Act.eval] at e1
     exact ⟨_, rfl, Does.val (by simp [execOp, Act.eval, e0, e1, go_sem, HLK.out wx hBo]) rfl⟩
    ·obtain ⟨k0, -⟩ := hp
     exact ⟨_, rfl, op_mv (s := SC _) rfl k0⟩
    ·obtain ⟨k0, -⟩ := hp
     have e0 : a.eval (.tmp 6) = .tuple #[.slice A0 n0 c0, .bool true] := k0
     simp [Act.eval] at e0
     exact ⟨_, rfl, Does.val (by simp [execOp, Act.eval, e0, go_sem]) rfl⟩
    ·obtain ⟨k0, -⟩ := hp
     have e0 : a.eval (.tmp 6) = .tuple #[.slice A0 n0 c0, .bool true] := k0
     simp [Act.eval] at e0
     exact ⟨_, rfl, Does.val (by simp [execOp, Act.eval, e0, go_sem]) rfl⟩
    ·obtain ⟨k0, -⟩ := hp
     exact ⟨_, rfl, op_as (s := SC _) rfl k0⟩
    ·obtain ⟨k0, -⟩ := hp
     exact ⟨_, rfl, op_as (s := SC _) rfl k0⟩
   ·intro val wx hB hsp hdis
    have hBo : Below wr.heap.size wr wx := dB hW_2 hB
    have e13 : val 13 = .slice A0 n0 c0 := hsp 13 (by omega)
    have e14 : val 14 = .bool true := hsp 14 (by omega)
    rw [← HF_.out]
    change wpList _ _ _ [] _ _
    simp only [puts_consT, puts_nilm, vals, List.map_cons, List.map_nil, Nat.zero_add, Nat.reduceAdd, e13, e14, List.setIfInBounds_toArray, List.set_cons_succ, List.set_cons_zero]
    clear hsp hdis HF_ hsz_ hB hW_2 e13 e14 ev0
    have hx1 := hx.below hBo
    have hbm : b ≠ bm := (end_ne hx HOW.out HM.out).1
    have HNR := Lib.hid (end_ne hx HOW.out HM.out).2
    have HBO := Lib.hid hBo
    have hbw : b < w.heap.size := HW.out b (by simp)
    have hbmw : bm < w.heap.size := HW.out bm (by simp)
    clear hBo HLK
    obtain ⟨q0, q1, q2, q3, q4, q5, q6, q7, z, l1⟩ := hx1.f8
    go_wp2_with fail
    generalize hW2 : wx.setCell ⟨b, 4, none⟩ _ = w2
    have hkb : KB wx w2 := by rw [← hW2]; exact (KB.refl _).set_ hx1 (by decide) _
    have hx2 : Bx w2 b 65 [.int .i64 Sk.win, .int .u64 Sk.key, rv, .int .i64 Sk.acked, .int .i64 (Sk.del + 1), .map (some bm), .bool Sk.owing, .int .i64 Sk.forged] := by rw [← hW2]; exact hx1.set_ 4 _
    have HM2 : Hid (w2.ownsMap Try.prog 3 RV bm Sk.cnt D) := by rw [← hW2]; exact Lib.hid (map_set (map_tc HM.out (Tc.of HBO.out) (R := []) (by simp)) (fun e => hbm e.symm) _)
    have HOW2 : Hid (w2.ownsRow 0 33 1 rv Sk.wait.length vs) := by rw [← hW2]; exact Lib.hid (row_set (own_below HOW.out HBO.out) (fun k hk => (HNR.out k hk).1.symm) _)
    have HU2 : Hid (w2.ownsRow w.heap.size 33 1 (.slice A3 n3 c3) n3 us) := by rw [← hW2]; exact Lib.hid (row_set (own_below HU.out HBO.out) (fun k hk => by have := HOB.out k hk; show k ≠ b; omega) _)
    have hk2 : KB wr w2 := (KB.of HBO.out).trans hkb
    have HT2 : Hid (TT (b :: bm :: rv.ownBlock.toList) wr w2) := by rw [← hW2]; exact Lib.hid ⟨(Tc.of HBO.out).set_ (.inl (by simp)) _, by rw [hW2]; exact hk2⟩
    have HK2 := Lib.hid hk2
    have hsz2 : w.heap.size ≤ w2.heap.size := Nat.le_trans HT.out.1.size HT2.out.1.size
    clear hkb hW2 hx1 q0 q1 q2 q3 q4 q5 q6 q7 z l1 hk2 hx HM HOW HU HBO
    go_upto_region 6 with fail
    generalize hW_6 : w2.drew = W_6
    refine gen_act ?_
    intro F_ hF_
    have ev0 : F_.eval (.tmp 0) = .pointer (some ⟨b, 0, none⟩) := by rw [← hF_]; rfl
    have hsz_ : ∀ d ∈ ([(29, []), (30, [0]), (31, [1]), (32, [2]), (33, []), (34, [4]), (35, [5]), (36, [6])] : List (Nat × List Nat)).map (·.1), d < F_.tmps.size := by rw [← hF_]; simp
    have HF_ := Lib.hid hF_; clear hF_
    refine wp_flow_tab true hW_6 8 [(29, []), (30, [0]), (31, [1]), (32, [2]), (33, []), (34, [4]), (35, [5]), (36, [6])] [SC (.pointer (some ⟨b, 0, none⟩)), SC (.pointer (some ⟨b, 0, none⟩)), SC (.pointer (some ⟨b, 5, none⟩)), SC (.map (some bm)), SC (.pointer (some ⟨b, 0, none⟩)), SC (.pointer (some ⟨b, 0, none⟩)), SC (.pointer (some ⟨b, 4, none⟩)), SC (.int .i64 (Sk.del + 1))] [false, false, false, false, false, false, false, false] (by kernel_rfl) (by kernel_rfl) (by kernel_rfl) (by kernel_rfl) (by kernel_rfl) hsz_ ⟨SC.mono _, SC.mono _, SC.mono _, SC.mono _, SC.mono _, SC.mono _, SC.mono _, SC.mono _, trivial⟩ ?_ ?_
    ·intro kq hkq a wx hB hp hs
     have hBo : Below w2.heap.size w2 wx := dB hW_6 hB
     have hcase : kq = 0 ∨ kq = 1 ∨ kq = 2 ∨ kq = 3 ∨ kq = 4 ∨ kq = 5 ∨ kq = 6 ∨ kq = 7 := by omega
     rcases hcase with rfl | rfl | rfl | rfl | rfl | rfl | rfl | rfl
     ·clear hp
      exact ⟨_, rfl, op_mv (s := SC _) rfl ((hs 0 rfl).trans ev0)⟩
     ·obtain ⟨k0, -⟩ := hp
      exact ⟨_, rfl, op_nil rfl k0⟩
     ·obtain ⟨k0, -⟩ := hp
      exact ⟨_, rfl, fa_link_End_5 rfl k0⟩
     ·obtain ⟨k0, -⟩ := hp
      exact ⟨_, rfl, ld_map_int___uint8 rfl k0 (hx2.below hBo) rfl⟩
     ·clear hp
      exact ⟨_, rfl, op_mv (s := SC _) rfl ((hs 0 rfl).trans ev0)⟩
     ·obtain ⟨k0, -⟩ := hp
      exact ⟨_, rfl, op_nil rfl k0⟩
     ·obtain ⟨k0, -⟩ := hp
      exact ⟨_, rfl, fa_link_End_4 rfl k0⟩
     ·obtain ⟨k0, -⟩ := hp
      exact ⟨_, rfl, ld_int rfl k0 (hx2.below hBo) rfl⟩
    ·intro val wx hB hsp hdis
     have hBo : Below w2.heap.size w2 wx := dB hW_6 hB
     have e3 : val 3 = .map (some bm) := hsp 3 (by omega)
     have e7 : val 7 = .int .i64 (Sk.del + 1) := hsp 7 (by omega)
     rw [← HF_.out]
     change wpList _ _ _ [_] _ _
     simp only [puts_consT, puts_nilm, vals, List.map_cons, List.map_nil, Nat.zero_add, Nat.reduceAdd, e3, e7, List.setIfInBounds_toArray, List.set_cons_succ, List.set_cons_zero]
     clear hsp hdis HF_ hsz_ hB hW_6 e3 e7 ev0
     obtain ⟨w4, rfl⟩ : ∃ w4 : World, w4 = wx := ⟨_, rfl⟩
     have HM4 := Lib.hid (map_tc HM2.out (Tc.of hBo) (R := []) (by simp))
     have HU4 := Lib.hid (own_below HU2.out hBo)
     have HOW4 := Lib.hid (own_below HOW2.out hBo)
     have hx4 := hx2.below hBo
     have HT4 := Lib.hid ((TT.rel _).trans HT2.out ⟨Tc.of hBo, KB.of hBo⟩)
     have HK4 := Lib.hid (HK2.out.trans (.of hBo))
     have hsz4 : w.heap.size ≤ w4.heap.size := Nat.le_trans hsz2 hBo.size
     clear hBo hx2 HM2 HU2 HOW2 HT2 HK2
     go_wp2_with (at_delete; refine wpList_delete_own _ rfl _ _ 63 3 rfl 33 law_int Try.underlying63 RV bm Sk.cnt D rfl HM4.out _ _ rfl (hkey64 hk64) ?_)
     intro w5 hm5 ht5
     have hg5 := ht5.grown
     have hx5 : Bx w5 b 65 _ := (hg5.block b hx4.lt (fun e => by injection e with e; exact hbm e)).trans hx4
     have hk5 : KB w4 w5 := (KB.refl _).grown hg5 (fun k hk cs fr e => by
      injection hk with hk; subst hk
      obtain ⟨es, ck, h1, _⟩ := HM4.out
      rw [h1] at e; cases e)
     have hu5 := HU4.out.kept hg5 (.inr (fun e => by have := HOB.out bm e; omega))
     have how5 := HOW4.out.kept hg5 (by
      rcases hq : rv.ownBlock with _ | k
      ·exact .inl rfl
      ·exact .inr (fun e => by injection e with e; exact (HNR.out k hq).2 e.symm))
     have HM5 := Lib.hid hm5; have HK5 := Lib.hid (HK4.out.trans hk5); have HU5 := Lib.hid hu5; have HOW5 := Lib.hid how5
     have HT5 := Lib.hid ((TT.rel _).trans HT4.out (⟨(Tc.refl _ _).grown hg5 (fun k hk => by injection hk with hk; subst hk; exact .inl (by simp)), hk5⟩ : TT (b :: bm :: rv.ownBlock.toList) w4 w5))
     have hsz5 : w.heap.size ≤ w5.heap.size := Nat.le_trans hsz4 hg5.size
     clear hm5 ht5 hg5 hk5 hu5 how5 HM4 HU4 HOW4 HK4 HT4 hx4
     have hsl : Maps.size D ≤ Sk.cnt := HM5s
     obtain ⟨m, rfl⟩ : ∃ m, gk = m + 1 := ⟨gk - 1, by have := HCN.out; omega⟩
     have HX5 := Lib.hid hx5
     have HVo := Lib.hid ((HV.out.kb HK5.out).kb (KB.of ((Below.refl _ _).alloc (Nat.le_refl _) (.cells #[.slice A0 n0 c0] 33))))
     have HBo := Lib.hid ((HBV.out.kb HK5.out).alloc (.cells #[.slice A0 n0 c0] 33))
     clear hx5
     go_wp2_with (refine wpList_app rfl (.tmp 37) (.tmp 39) rfl rfl rfl (by simp; omega) (HU5.out.alloc _) HVo.out (Bx.at_ rfl) HBo.out (by omega) ?_)
     intro v6 w6 ho6 hg6 hk6 hv6
     have hga : w5.grownBy w6 (Value.slice A3 n3 c3).ownBlock := (World.grownBy_alloc w5 _ _).trans hg6
     have hk56 : KB w5 w6 := (KB.of ((Below.refl _ _).alloc (Nat.le_refl _) _)).trans hk6
     have hT56 : TT (b :: bm :: rv.ownBlock.toList) w w6 := ⟨((HT.out.1.trans HT5.out.1).grown hga (fun k hk => .inr (HOB.out k hk))), (HT.out.2.trans HK5.out).trans hk56⟩
     have hE6 : EndAt w6 b (b :: bm :: rv.ownBlock.toList) { Sk with del := Sk.del + 1, held := fun k => if k = Sk.del + 1 then none else Sk.held k, cnt := m } := by
      refine EndAt.keep (w := w5) ⟨rv, vs, bm, D.del (.int .i64 (Sk.del + 1)), HX5.out, HOW5.out, HVS.out.kb HK5.out, map_lower HM5.out (by have := HCN.out; show _ ≤ m; omega), (HHE.out.del hk64).kb HK5.out, rfl⟩ hk56 (fun x hx => ?_)
      have hxw := HW.out x hx
      refine hga.block x (by omega) (fun e => ?_)
      have := HOB.out x e.symm
      omega
     have hD6 : K.dlv S.cnt S = ((o ++ [l]) ++ (K.dlv m { Sk with del := Sk.del + 1, held := fun k => if k = Sk.del + 1 then none else Sk.held k, cnt := m }).1, (K.dlv m { Sk with del := Sk.del + 1, held := fun k => if k = Sk.del + 1 then none else Sk.held k, cnt := m }).2) := by
      rw [HD.out, K.dlv_some HF.out, show Sk.cnt - 1 = m by have := HCN.out; omega]
      simp
     have HR := Lib.hid (show DlvAt S b (b :: bm :: rv.ownBlock.toList) w m v6 w6 from ⟨_, o ++ [l], us ++ [.slice A0 n0 c0], rfl, hE6, hD6, by rw [List.length_append, ← HN3.out]; exact ho6, hv6, hT56, by show 0 ≤ Sk.del + 1; omega, by show Sk.del + 1 + (m : Int) ≤ _; omega, by rw [List.length_append, ← HN3.out, List.length_singleton]; omega⟩)
     clear ho6 hg6 hk6 hv6 hga hk56 hT56 hE6 hD6
     go_wp2
     go_roundg m
     case rel => exact HR.out
     case measure => omega
end Go.Proofs.Ytgdibcgphjmofaa
