/-
 THE WALK of In, where the packet is taken.
-/
import Derived.Test.YtgdibcgphjmofaaLnkR
namespace Go.Proofs.Ytgdibcgphjmofaa
set_option maxHeartbeats 1000000
open Go.RowKit
open Go.Maps
set_option linter.unusedVariables false
theorem law_int : Keyed Try.prog 3 := int_keyed Try.underlying3
theorem wf64 {k : Int} (h : W.Is64 k) : (Lit.int .i64 k).wf = true := WalkArith.wf_i64 (by unfold W.Is64 at h; omega)
theorem hkey64 {k : Int} (h : W.Is64 k) : keyOf Try.prog 3 (.int .i64 k) = some (.int .i64 k) := keyOf_int_mk Try.underlying3 (wf64 h)
theorem zeroE (w : World) : (zeroValue 33).run Try.prog w = .ok (.slice none 0 0) w := by kernel_rfl
theorem look_some {w : World} {bm n : Nat} {D : DataW Value} {k : Int} {v : Value} (hm : w.ownsMap Try.prog 3 RV bm n D) (hk : W.Is64 k) (h1 : Maps.has D (.int .i64 k) = true) (h2 : D.atKey (.int .i64 k) zd = .held v) :
  (Instr.lookup 63 (.map (some bm)) (.int .i64 k) true).run Try.prog w = .ok (.tuple #[v, .bool true]) w := by
 obtain ⟨v', ps, hr, hv⟩ := hm.look_ok law_int Try.underlying63 (zeroE w) (zd := zd) (zp := []) rfl (hkey64 hk)
 rw [h1] at hr
 unfold RV at hv
 rw [h2] at hv
 injection hv with hv
 injection hv with hv _
 injection hv with hv
 rw [hv] at hr
 exact hr
theorem look_none {w : World} {bm n : Nat} {D : DataW Value} {k : Int} (hm : w.ownsMap Try.prog 3 RV bm n D) (hk : W.Is64 k) (h1 : Maps.has D (.int .i64 k) = false) :
  (Instr.lookup 63 (.map (some bm)) (.int .i64 k) true).run Try.prog w = .ok (.tuple #[.slice none 0 0, .bool false]) w := by
 obtain ⟨v', ps, hr, hv⟩ := hm.look_ok law_int Try.underlying63 (zeroE w) (zd := zd) (zp := []) rfl (hkey64 hk)
 rw [h1] at hr
 unfold RV at hv
 rw [atKey_of_not_has h1] at hv
 injection hv with hv
 injection hv with hv _
 unfold zd at hv
 injection hv with hv
 rw [hv] at hr
 exact hr
theorem map_lower {w : World} {bm n m : Nat} {D : DataW Value} (h : w.ownsMap Try.prog 3 RV bm n D) (hs : Maps.size D ≤ m) : w.ownsMap Try.prog 3 RV bm m D := by
 obtain ⟨es, ck, h1, h2, h3, h4⟩ := h
 refine ⟨es, ck, h1, h2, ?_, h4⟩
 subst h4
 rw [Maps.size_eq, length_read] at hs
 exact hs
theorem HeldIs.del {w : World} {D : DataW Value} {f : Int → Option (List UInt8)} (h : HeldIs w D f) {x : Int} (hx : W.Is64 x) : HeldIs w (D.del (.int .i64 x)) (fun k => if k = x then none else f k) := by
 intro k hk
 by_cases hkx : k = x
 ·subst hkx
  simp only [if_true]
  exact ⟨fun _ => has_del_same, fun l hl => by cases hl⟩
 ·have hne : (Lit.int .i64 k) ≠ (Lit.int .i64 x) := fun e => by injection e with _ e; exact hkx e
  simp only [if_neg hkx]
  rw [has_del_other hne, atKey_del_other hne]
  exact h k hk
/-- The messages that are next, and the state behind them. -/
def K.dlv : Nat → K.E → List (List UInt8) × K.E
 | 0, S => ([], S)
 | n + 1, S => match S.held (S.del + 1) with
  | none => ([], S)
  | some l => (l :: (K.dlv n { S with del := S.del + 1, held := fun k => if k = S.del + 1 then none else S.held k, cnt := S.cnt - 1 }).1, (K.dlv n { S with del := S.del + 1, held := fun k => if k = S.del + 1 then none else S.held k, cnt := S.cnt - 1 }).2)
/-- What deliver returns. -/
def RDlv (r : List (List UInt8) × K.E) (b : Nat) (own : List Nat) (w : World) (e : Ending) (w' : World) : Prop := ∃ v, e = .returned v ∧ RowV w.heap.size w' v r.1 ∧ EndAt w' b own r.2 ∧ TT own w w'
theorem K.dlv_none {n : Nat} {S : K.E} (h : S.held (S.del + 1) = none) : K.dlv n S = ([], S) := by
 cases n with
 | zero => rfl
 | succ n => unfold K.dlv; rw [h]
theorem K.dlv_some {n : Nat} {S : K.E} {l : List UInt8} (h : S.held (S.del + 1) = some l) : K.dlv (n + 1) S = (l :: (K.dlv n { S with del := S.del + 1, held := fun k => if k = S.del + 1 then none else S.held k, cnt := S.cnt - 1 }).1, (K.dlv n { S with del := S.del + 1, held := fun k => if k = S.del + 1 then none else S.held k, cnt := S.cnt - 1 }).2) := by
 rw [K.dlv, h]
theorem Tidy.size {D : DataW Value} (h : Tidy D) {k : Lit} (hk : Maps.has D k = true) : Maps.size (D.del k) + 1 = Maps.size D := by
 have := size_del (k := k) h
 rw [hk] at this
 simpa using this
def DlvAt (S : K.E) (b : Nat) (own : List Nat) (w : World) (gk : Nat) (v : Value) (wr : World) : Prop := ∃ (Sk : K.E) (o : List (List UInt8)) (us : List Value), Sk.cnt = gk ∧ EndAt wr b own Sk ∧ K.dlv S.cnt S = (o ++ (K.dlv gk Sk).1, (K.dlv gk Sk).2) ∧
 wr.ownsRow w.heap.size 33 1 v o.length us ∧ Vs wr us o ∧ TT own w wr ∧ 0 ≤ Sk.del ∧ Sk.del + (gk : Int) ≤ 2000000000 ∧ o.length + gk ≤ 1000000000
set_option maxRecDepth 100000 in
theorem deliver_any (b : Nat) (own : List Nat) (S : K.E) (w : World) (h : EndAt w b own S) (hd0 : 0 ≤ S.del) (hd1 : S.del ≤ 1000000000) (hc : S.cnt ≤ 1000000000) :
  Calls Try.prog 38 #[.pointer (some ⟨b, 0, none⟩)] w (RDlv (K.dlv S.cnt S) b own w) := by
 have HS := Lib.hid (show DlvAt S b own w S.cnt (.slice none 0 0) w from ⟨S, [], [], rfl, h, rfl, World.ownsRow_nil _ _ _ _, Vs.nil _, (TT.rel own).refl w, hd0, by omega, by simp; omega⟩)
 have HW := Lib.hid h.lt
 clear h hd0 hd1 hc
 go_enter Try.func38, Try.ntmps38
 go_wp2_with fail
 go_loopg [3] S.cnt (fun gk s3 wr => DlvAt S b own w gk s3 wr)
 case atStart => exact HS.out
 case round =>
  obtain ⟨Sk, o, us, hcnt, hE, hD, hu, hv, hT, hd0, hd1, ho⟩ := hrel
  obtain ⟨rv, vs, bm, D, hx, hown, hvs, hmap, hheld, rfl⟩ := hE
  obtain ⟨A3, c3, rfl, -⟩ := own_form hu
  have hk64 : W.Is64 (Sk.del + 1) := by unfold W.Is64; omega
  have hh := hheld (Sk.del + 1) hk64
  have hw1 : IntKind.i64.wrap (Sk.del + 1) = Sk.del + 1 := by rw [IntKind.wrap_i64]; omega
  have HHE := Lib.hid hheld; have HVS := Lib.hid hvs; have HOW := Lib.hid hown; have HM := Lib.hid hmap
  have HD := Lib.hid hD; have HU := Lib.hid hu; have HV := Lib.hid hv; have HT := Lib.hid hT
  have HCN := Lib.hid hcnt
  have hob : ∀ k, (Value.slice A3 o.length c3).ownBlock = some k → w.heap.size ≤ k := fun k hk => (hu.lt k hk).1
  have HOB := Lib.hid hob
  have hdd : Sk.del ≤ 2000000000 := by omega
  obtain ⟨n3, hn3⟩ : ∃ n, n = o.length := ⟨_, rfl⟩
  rw [← hn3] at HU HOB ho ⊢
  have HN3 := Lib.hid hn3
  clear hD hu hv hT hown hvs hmap hheld hcnt hob hn3
  rcases hf : Sk.held (Sk.del + 1) with _ | l
  ·have hno := hh.1 hf
   have HLK := Lib.hid (fun (wx : World) (hB : Below wr.heap.size wr wx) => look_none (map_tc HM.out (Tc.of hB) (R := []) (by simp)) hk64 hno)
   have HF := Lib.hid hf
   clear hh hno hf
   go_wp2_with fail
   go_upto_region 2 with fail
   generalize hW_2 : wr.drew = W_2
   refine gen_act ?_
   intro F_ hF_
   have ev0 : F_.eval (.tmp 0) = .pointer (some ⟨b, 0, none⟩) := by rw [← hF_]; rfl
   have hsz_ : ∀ d ∈ ([(7, []), (8, [0]), (9, [1]), (10, [2]), (11, []), (12, [4]), (13, [5]), (14, [6]), (15, [7]), (16, [3, 8]), (6, [9]), (17, [10]), (18, [10]), (4, [11]), (5, [12])] : List (Nat × List Nat)).map (·.1), d < F_.tmps.size := by rw [← hF_]; simp
   have HF_ := Lib.hid hF_; clear hF_
   refine wp_flow_tab true hW_2 15 [(7, []), (8, [0]), (9, [1]), (10, [2]), (11, []), (12, [4]), (13, [5]), (14, [6]), (15, [7]), (16, [3, 8]), (6, [9]), (17, [10]), (18, [10]), (4, [11]), (5, [12])] [SC (.pointer (some ⟨b, 0, none⟩)), SC (.pointer (some ⟨b, 0, none⟩)), SC (.pointer (some ⟨b, 5, none⟩)), SC (.map (some bm)), SC (.pointer (some ⟨b, 0, none⟩)), SC (.pointer (some ⟨b, 0, none⟩)), SC (.pointer (some ⟨b, 4, none⟩)), SC (.int .i64 Sk.del), SC (.int .i64 (Sk.del + 1)), SC (.tuple #[.slice none 0 0, .bool false]), SC (.tuple #[.slice none 0 0, .bool false]), SC (.slice none 0 0), SC (.bool false), SC (.slice none 0 0), SC (.bool false)] [false, false, false, false, false, false, false, false, false, false, false, false, false, false, false] (by kernel_rfl) (by kernel_rfl) (by kernel_rfl) (by kernel_rfl) (by kernel_rfl) hsz_ ⟨SC.mono _, SC.mono _, SC.mono _, SC.mono _, SC.mono _, SC.mono _, SC.mono _, SC.mono _, SC.mono _, SC.mono _, SC.mono _, SC.mono _, SC.mono _, SC.mono _, SC.mono _, trivial⟩ ?_ ?_
   ·intro kq hkq a wx hB hp hs
    have hBo : Below wr.heap.size wr wx := dB hW_2 hB
    have hcase : kq = 0 ∨ kq = 1 ∨ kq = 2 ∨ kq = 3 ∨ kq = 4 ∨ kq = 5 ∨ kq = 6 ∨ kq = 7 ∨ kq = 8 ∨ kq = 9 ∨ kq = 10 ∨ kq = 11 ∨ kq = 12 ∨ kq = 13 ∨ kq = 14 := by omega
    rcases hcase with rfl | rfl | rfl | rfl | rfl | rfl | rfl | rfl | rfl | rfl | rfl | rfl | rfl | rfl | rfl
    ·clear hp
     exact ⟨_, rfl, op_mv (s := SC _) rfl ((hs 0 rfl).trans ev0)⟩
    ·obtain ⟨k0, -⟩ := hp
     exact ⟨_, rfl, op_nil rfl k0⟩
    ·obtain ⟨k0, -⟩ := hp
     exact ⟨_, rfl, fa_link_End_5 rfl k0⟩
    ·obtain ⟨k0, -⟩ := hp
     exact ⟨_, rfl, ld_map_int___uint8 rfl k0 (hx.below hBo) rfl⟩
    ·clear hp
     exact ⟨_, rfl, op_mv (s := SC _) rfl ((hs 0 rfl).trans ev0)⟩
    ·obtain ⟨k0, -⟩ := hp
     exact ⟨_, rfl, op_nil rfl k0⟩
    ·obtain ⟨k0, -⟩ := hp
     exact ⟨_, rfl, fa_link_End_4 rfl k0⟩
    ·obtain ⟨k0, -⟩ := hp
     exact ⟨_, rfl, ld_int rfl k0 (hx.below hBo) rfl⟩
    ·obtain ⟨k0, -⟩ := hp
     have e0 : a.eval (.tmp 14) = .int .i64 Sk.del := k0
     simp [Act.eval] at e0
     exact ⟨_, rfl, Does.val (by simp [execOp, Act.eval, e0, go_sem, hw1]) rfl⟩
    ·obtain ⟨k0, k1, -⟩ := hp
     have e0 : a.eval (.tmp 10) = .map (some bm) := k0
     simp [Act.eval] at e0
     have e1 : a.eval (.tmp 15) = .int .i64 (Sk.del + 1) := k1
     simp [Act.eval] at e1
     exact ⟨_, rfl, Does.val (by simp [execOp, Act.eval, e0, e1, go_sem, HLK.out wx hBo]) rfl⟩
    ·obtain ⟨k0, -⟩ := hp
     exact ⟨_, rfl, op_mv (s := SC _) rfl k0⟩
    ·obtain ⟨k0, -⟩ := hp
     have e0 : a.eval (.tmp 6) = .tuple #[.slice none 0 0, .bool false] := k0
     simp [Act.eval] at e0
     exact ⟨_, rfl, Does.val (by simp [execOp, Act.eval, e0, go_sem]) rfl⟩
    ·obtain ⟨k0, -⟩ := hp
     have e0 : a.eval (.tmp 6) = .tuple #[.slice none 0 0, .bool false] := k0
     simp [Act.eval] at e0
     exact ⟨_, rfl, Does.val (by simp [execOp, Act.eval, e0, go_sem]) rfl⟩
    ·obtain ⟨k0, -⟩ := hp
     exact ⟨_, rfl, op_as (s := SC _) rfl k0⟩
    ·obtain ⟨k0, -⟩ := hp
     exact ⟨_, rfl, op_as (s := SC _) rfl k0⟩
   ·intro val wx hB hsp hdis
    have hBo : Below wr.heap.size wr wx := dB hW_2 hB
    have e13 : val 13 = .slice none 0 0 := hsp 13 (by omega)
    have e14 : val 14 = .bool false := hsp 14 (by omega)
    rw [← HF_.out]
    change wpList _ _ _ [] _ _
    simp only [puts_consT, puts_nilm, vals, List.map_cons, List.map_nil, Nat.zero_add, Nat.reduceAdd, e13, e14, List.setIfInBounds_toArray, List.set_cons_succ, List.set_cons_zero]
    clear hsp hdis HF_ hsz_ hB hW_2 e13 e14 ev0
    have HTX := Lib.hid ((TT.rel _).trans HT.out ⟨Tc.of hBo, KB.of hBo⟩)
    have HBO := Lib.hid hBo
    clear hBo
    go_wp2
    go_ret
    have hz : K.dlv gk Sk = ([], Sk) := K.dlv_none HF.out
    have hd := HD.out
    rw [hz, List.append_nil] at hd
    rw [hd]
    refine ⟨_, rfl, RowV.of (own_below HU.out HBO.out) (HV.out.kb (.of HBO.out)), EndAt.below ⟨rv, vs, bm, D, hx, HOW.out, HVS.out, HM.out, HHE.out, rfl⟩ HBO.out, HTX.out⟩
  ·obtain ⟨hyes, v0, ha0, hbv0⟩ := hh.2 l hf
   have HM5s : Maps.size D ≤ Sk.cnt := HM.out.size_le
   have hsd := Tidy.size (HM.out.tidy law_int) hyes
   have HLK := Lib.hid (fun (wx : World) (hB : Below wr.heap.size wr wx) => look_some (map_tc HM.out (Tc.of hB) (R := []) (by simp)) hk64 hyes ha0)
   have HF := Lib.hid hf
   have HBV := Lib.hid hbv0
   clear hh hf ha0 hbv0 hyes
   obtain ⟨A0, n0, c0, rfl⟩ : ∃ A n c, v0 = .slice A n c := by obtain ⟨A, c, h, _⟩ := HBV.out; exact ⟨_, _, _, h⟩
   go_wp2_with fail
   go_upto_region 2 with fail
   generalize hW_2 : wr.drew = W_2
   refine gen_act ?_
   intro F_ hF_
   have ev0 : F_.eval (.tmp 0) = .pointer (some ⟨b, 0, none⟩) := by rw [← hF_]; rfl
   have hsz_ : ∀ d ∈ ([(7, []), (8, [0]), (9, [1]), (10, [2]), (11, []), (12, [4]), (13, [5]), (14, [6]), (15, [7]), (16, [3, 8]), (6, [9]), (17, [10]), (18, [10]), (4, [11]), (5, [12])] : List (Nat × List Nat)).map (·.1), d < F_.tmps.size := by rw [← hF_]; simp
   have HF_ := Lib.hid hF_; clear hF_
   refine wp_flow_tab true hW_2 15 [(7, []), (8, [0]), (9, [1]), (10, [2]), (11, []), (12, [4]), (13, [5]), (14, [6]), (15, [7]), (16, [3, 8]), (6, [9]), (17, [10]), (18, [10]), (4, [11]), (5, [12])] [SC (.pointer (some ⟨b, 0, none⟩)), SC (.pointer (some ⟨b, 0, none⟩)), SC (.pointer (some ⟨b, 5, none⟩)), SC (.map (some bm)), SC (.pointer (some ⟨b, 0, none⟩)), SC (.pointer (some ⟨b, 0, none⟩)), SC (.pointer (some ⟨b, 4, none⟩)), SC (.int .i64 Sk.del), SC (.int .i64 (Sk.del + 1)), SC (.tuple #[.slice A0 n0 c0, .bool true]), SC (.tuple #[.slice A0 n0 c0, .bool true]), SC (.slice A0 n0 c0), SC (.bool true), SC (.slice A0 n0 c0), SC (.bool true)] [false, false, false, false, false, false, false, false, false, false, false, false, false, false, false] (by kernel_rfl) (by kernel_rfl) (by kernel_rfl) (by kernel_rfl) (by kernel_rfl) hsz_ ⟨SC.mono _, SC.mono _, SC.mono _, SC.mono _, SC.mono _, SC.mono _, SC.mono _, SC.mono _, SC.mono _, SC.mono _, SC.mono _, SC.mono _, SC.mono _, SC.mono _, SC.mono _, trivial⟩ ?_ ?_
   ·intro kq hkq a wx hB hp hs
    have hBo : Below wr.heap.size wr wx := dB hW_2 hB
    have hcase : kq = 0 ∨ kq = 1 ∨ kq = 2 ∨ kq = 3 ∨ kq = 4 ∨ kq = 5 ∨ kq = 6 ∨ kq = 7 ∨ kq = 8 ∨ kq = 9 ∨ kq = 10 ∨ kq = 11 ∨ kq = 12 ∨ kq = 13 ∨ kq = 14 := by omega
    rcases hcase with rfl | rfl | rfl | rfl | rfl | rfl | rfl | rfl | rfl | rfl | rfl | rfl | rfl | rfl | rfl
    ·clear hp
     exact ⟨_, rfl, op_mv (s := SC _) rfl ((hs 0 rfl).trans ev0)⟩
    ·obtain ⟨k0, -⟩ := hp
     exact ⟨_, rfl, op_nil rfl k0⟩
    ·obtain ⟨k0, -⟩ := hp
     exact ⟨_, rfl, fa_link_End_5 rfl k0⟩
    ·obtain ⟨k0, -⟩ := hp
     exact ⟨_, rfl, ld_map_int___uint8 rfl k0 (hx.below hBo) rfl⟩
    ·clear hp
     exact ⟨_, rfl, op_mv (s := SC _) rfl ((hs 0 rfl).trans ev0)⟩
    ·obtain ⟨k0, -⟩ := hp
     exact ⟨_, rfl, op_nil rfl k0⟩
    ·obtain ⟨k0, -⟩ := hp
     exact ⟨_, rfl, fa_link_End_4 rfl k0⟩
    ·obtain ⟨k0, -⟩ := hp
     exact ⟨_, rfl, ld_int rfl k0 (hx.below hBo) rfl⟩
    ·obtain ⟨k0, -⟩ := hp
     have e0 : a.eval (.tmp 14) = .int .i64 Sk.del := k0
     simp [Act.eval] at e0
     exact ⟨_, rfl, Does.val (by simp [execOp, Act.eval, e0, go_sem, hw1]) rfl⟩
    ·obtain ⟨k0, k1, -⟩ := hp
     have e0 : a.eval (.tmp 10) = .map (some bm) := k0
     simp [Act.eval] at e0
     have e1 : a.eval (.tmp 15) = .int .i64 (Sk.del + 1) := k1
     simp [Act.eval] at e1
     exact ⟨_, rfl, Does.val (by simp [execOp, Act.eval, e0, e1, go_sem, HLK.out wx hBo]) rfl⟩
    ·obtain ⟨k0, -⟩ := hp
     exact ⟨_, rfl, op_mv (s := SC _) rfl k0⟩
    ·obtain ⟨k0, -⟩ := hp
     have e0 : a.eval (.tmp 6) = .tuple #[.slice A0 n0 c0, .bool true] := k0
     simp [Act.eval] at e0
     exact ⟨_, rfl, Does.val (by simp [execOp, Act.eval, e0, go_sem]) rfl⟩
    ·obtain ⟨k0, -⟩ := hp
     have e0 : a.eval (.tmp 6) = .tuple #[.slice A0 n0 c0, .bool true] := k0
     simp [Act.eval] at e0
     exact ⟨_, rfl, Does.val (by simp [execOp, Act.eval, e0, go_sem]) rfl⟩
    ·obtain ⟨k0, -⟩ := hp
     exact ⟨_, rfl, op_as (s := SC _) rfl k0⟩
    ·obtain ⟨k0, -⟩ := hp
     exact ⟨_, rfl, op_as (s := SC _) rfl k0⟩
   ·intro val wx hB hsp hdis
    have hBo : Below wr.heap.size wr wx := dB hW_2 hB
    have e13 : val 13 = .slice A0 n0 c0 := hsp 13 (by omega)
    have e14 : val 14 = .bool true := hsp 14 (by omega)
    rw [← HF_.out]
    change wpList _ _ _ [] _ _
    simp only [puts_consT, puts_nilm, vals, List.map_cons, List.map_nil, Nat.zero_add, Nat.reduceAdd, e13, e14, List.setIfInBounds_toArray, List.set_cons_succ, List.set_cons_zero]
    clear hsp hdis HF_ hsz_ hB hW_2 e13 e14 ev0
    have hx1 := hx.below hBo
    have hbm : b ≠ bm := (end_ne hx HOW.out HM.out).1
    have HNR := Lib.hid (end_ne hx HOW.out HM.out).2
    have HBO := Lib.hid hBo
    have hbw : b < w.heap.size := HW.out b (by simp)
    have hbmw : bm < w.heap.size := HW.out bm (by simp)
    clear hBo HLK
    obtain ⟨q0, q1, q2, q3, q4, q5, q6, q7, z, l1⟩ := hx1.f8
    go_wp2_with fail
    generalize hW2 : wx.setCell ⟨b, 4, none⟩ _ = w2
    have hkb : KB wx w2 := by rw [← hW2]; exact (KB.refl _).set_ hx1 (by decide) _
    have hx2 : Bx w2 b 65 [.int .i64 Sk.win, .int .u64 Sk.key, rv, .int .i64 Sk.acked, .int .i64 (Sk.del + 1), .map (some bm), .bool Sk.owing, .int .i64 Sk.forged] := by rw [← hW2]; exact hx1.set_ 4 _
    have HM2 : Hid (w2.ownsMap Try.prog 3 RV bm Sk.cnt D) := by rw [← hW2]; exact Lib.hid (map_set (map_tc HM.out (Tc.of HBO.out) (R := []) (by simp)) (fun e => hbm e.symm) _)
    have HOW2 : Hid (w2.ownsRow 0 33 1 rv Sk.wait.length vs) := by rw [← hW2]; exact Lib.hid (row_set (own_below HOW.out HBO.out) (fun k hk => (HNR.out k hk).1.symm) _)
    have HU2 : Hid (w2.ownsRow w.heap.size 33 1 (.slice A3 n3 c3) n3 us) := by rw [← hW2]; exact Lib.hid (row_set (own_below HU.out HBO.out) (fun k hk => by have := HOB.out k hk; show k ≠ b; omega) _)
    have hk2 : KB wr w2 := (KB.of HBO.out).trans hkb
    have HT2 : Hid (TT (b :: bm :: rv.ownBlock.toList) wr w2) := by rw [← hW2]; exact Lib.hid ⟨(Tc.of HBO.out).set_ (.inl (by simp)) _, by rw [hW2]; exact hk2⟩
    have HK2 := Lib.hid hk2
    have hsz2 : w.heap.size ≤ w2.heap.size := Nat.le_trans HT.out.1.size HT2.out.1.size
    clear hkb hW2 hx1 q0 q1 q2 q3 q4 q5 q6 q7 z l1 hk2 hx HM HOW HU HBO
    go_upto_region 6 with fail
    generalize hW_6 : w2.drew = W_6
    refine gen_act ?_
    intro F_ hF_
    have ev0 : F_.eval (.tmp 0) = .pointer (some ⟨b, 0, none⟩) := by rw [← hF_]; rfl
    have hsz_ : ∀ d ∈ ([(29, []), (30, [0]), (31, [1]), (32, [2]), (33, []), (34, [4]), (35, [5]), (36, [6])] : List (Nat × List Nat)).map (·.1), d < F_.tmps.size := by rw [← hF_]; simp
    have HF_ := Lib.hid hF_; clear hF_
    refine wp_flow_tab true hW_6 8 [(29, []), (30, [0]), (31, [1]), (32, [2]), (33, []), (34, [4]), (35, [5]), (36, [6])] [SC (.pointer (some ⟨b, 0, none⟩)), SC (.pointer (some ⟨b, 0, none⟩)), SC (.pointer (some ⟨b, 5, none⟩)), SC (.map (some bm)), SC (.pointer (some ⟨b, 0, none⟩)), SC (.pointer (some ⟨b, 0, none⟩)), SC (.pointer (some ⟨b, 4, none⟩)), SC (.int .i64 (Sk.del + 1))] [false, false, false, false, false, false, false, false] (by kernel_rfl) (by kernel_rfl) (by kernel_rfl) (by kernel_rfl) (by kernel_rfl) hsz_ ⟨SC.mono _, SC.mono _, SC.mono _, SC.mono _, SC.mono _, SC.mono _, SC.mono _, SC.mono _, trivial⟩ ?_ ?_
    ·intro kq hkq a wx hB hp hs
     have hBo : Below w2.heap.size w2 wx := dB hW_6 hB
     have hcase : kq = 0 ∨ kq = 1 ∨ kq = 2 ∨ kq = 3 ∨ kq = 4 ∨ kq = 5 ∨ kq = 6 ∨ kq = 7 := by omega
     rcases hcase with rfl | rfl | rfl | rfl | rfl | rfl | rfl | rfl
     ·clear hp
      exact ⟨_, rfl, op_mv (s := SC _) rfl ((hs 0 rfl).trans ev0)⟩
     ·obtain ⟨k0, -⟩ := hp
      exact ⟨_, rfl, op_nil rfl k0⟩
     ·obtain ⟨k0, -⟩ := hp
      exact ⟨_, rfl, fa_link_End_5 rfl k0⟩
     ·obtain ⟨k0, -⟩ := hp
      exact ⟨_, rfl, ld_map_int___uint8 rfl k0 (hx2.below hBo) rfl⟩
     ·clear hp
      exact ⟨_, rfl, op_mv (s := SC _) rfl ((hs 0 rfl).trans ev0)⟩
     ·obtain ⟨k0, -⟩ := hp
      exact ⟨_, rfl, op_nil rfl k0⟩
     ·obtain ⟨k0, -⟩ := hp
      exact ⟨_, rfl, fa_link_End_4 rfl k0⟩
     ·obtain ⟨k0, -⟩ := hp
      exact ⟨_, rfl, ld_int rfl k0 (hx2.below hBo) rfl⟩
    ·intro val wx hB hsp hdis
     have hBo : Below w2.heap.size w2 wx := dB hW_6 hB
     have e3 : val 3 = .map (some bm) := hsp 3 (by omega)
     have e7 : val 7 = .int .i64 (Sk.del + 1) := hsp 7 (by omega)
     rw [← HF_.out]
     change wpList _ _ _ [_] _ _
     simp only [puts_consT, puts_nilm, vals, List.map_cons, List.map_nil, Nat.zero_add, Nat.reduceAdd, e3, e7, List.setIfInBounds_toArray, List.set_cons_succ, List.set_cons_zero]
     clear hsp hdis HF_ hsz_ hB hW_6 e3 e7 ev0
     obtain ⟨w4, rfl⟩ : ∃ w4 : World, w4 = wx := ⟨_, rfl⟩
     have HM4 := Lib.hid (map_tc HM2.out (Tc.of hBo) (R := []) (by simp))
     have HU4 := Lib.hid (own_below HU2.out hBo)
     have HOW4 := Lib.hid (own_below HOW2.out hBo)
     have hx4 := hx2.below hBo
     have HT4 := Lib.hid ((TT.rel _).trans HT2.out ⟨Tc.of hBo, KB.of hBo⟩)
     have HK4 := Lib.hid (HK2.out.trans (.of hBo))
     have hsz4 : w.heap.size ≤ w4.heap.size := Nat.le_trans hsz2 hBo.size
     clear hBo hx2 HM2 HU2 HOW2 HT2 HK2
     go_wp2_with (at_delete; refine wpList_delete_own _ rfl _ _ 63 3 rfl 33 law_int Try.underlying63 RV bm Sk.cnt D rfl HM4.out _ _ rfl (hkey64 hk64) ?_)
     intro w5 hm5 ht5
     have hg5 := ht5.grown
     have hx5 : Bx w5 b 65 _ := (hg5.block b hx4.lt (fun e => by injection e with e; exact hbm e)).trans hx4
     have hk5 : KB w4 w5 := (KB.refl _).grown hg5 (fun k hk cs fr e => by
      injection hk with hk; subst hk
      obtain ⟨es, ck, h1, _⟩ := HM4.out
      rw [h1] at e; cases e)
     have hu5 := HU4.out.kept hg5 (.inr (fun e => by have := HOB.out bm e; omega))
     have how5 := HOW4.out.kept hg5 (by
      rcases hq : rv.ownBlock with _ | k
      ·exact .inl rfl
      ·exact .inr (fun e => by injection e with e; exact (HNR.out k hq).2 e.symm))
     have HM5 := Lib.hid hm5; have HK5 := Lib.hid (HK4.out.trans hk5); have HU5 := Lib.hid hu5; have HOW5 := Lib.hid how5
     have HT5 := Lib.hid ((TT.rel _).trans HT4.out (⟨(Tc.refl _ _).grown hg5 (fun k hk => by injection hk with hk; subst hk; exact .inl (by simp)), hk5⟩ : TT (b :: bm :: rv.ownBlock.toList) w4 w5))
     have hsz5 : w.heap.size ≤ w5.heap.size := Nat.le_trans hsz4 hg5.size
     clear hm5 ht5 hg5 hk5 hu5 how5 HM4 HU4 HOW4 HK4 HT4 hx4
     have hsl : Maps.size D ≤ Sk.cnt := HM5s
     obtain ⟨m, rfl⟩ : ∃ m, gk = m + 1 := ⟨gk - 1, by have := HCN.out; omega⟩
     have HX5 := Lib.hid hx5
     have HVo := Lib.hid ((HV.out.kb HK5.out).kb (KB.of ((Below.refl _ _).alloc (Nat.le_refl _) (.cells #[.slice A0 n0 c0] 33))))
     have HBo := Lib.hid ((HBV.out.kb HK5.out).alloc (.cells #[.slice A0 n0 c0] 33))
     clear hx5
     go_wp2_with (refine wpList_app rfl (.tmp 37) (.tmp 39) rfl rfl rfl (by simp; omega) (HU5.out.alloc _) HVo.out (Bx.at_ rfl) HBo.out (by omega) ?_)
     intro v6 w6 ho6 hg6 hk6 hv6
     have hga : w5.grownBy w6 (Value.slice A3 n3 c3).ownBlock := (World.grownBy_alloc w5 _ _).trans hg6
     have hk56 : KB w5 w6 := (KB.of ((Below.refl _ _).alloc (Nat.le_refl _) _)).trans hk6
     have hT56 : TT (b :: bm :: rv.ownBlock.toList) w w6 := ⟨((HT.out.1.trans HT5.out.1).grown hga (fun k hk => .inr (HOB.out k hk))), (HT.out.2.trans HK5.out).trans hk56⟩
     have hE6 : EndAt w6 b (b :: bm :: rv.ownBlock.toList) { Sk with del := Sk.del + 1, held := fun k => if k = Sk.del + 1 then none else Sk.held k, cnt := m } := by
      refine EndAt.keep (w := w5) ⟨rv, vs, bm, D.del (.int .i64 (Sk.del + 1)), HX5.out, HOW5.out, HVS.out.kb HK5.out, map_lower HM5.out (by have := HCN.out; show _ ≤ m; omega), (HHE.out.del hk64).kb HK5.out, rfl⟩ hk56 (fun x hx => ?_)
      have hxw := HW.out x hx
      refine hga.block x (by omega) (fun e => ?_)
      have := HOB.out x e.symm
      omega
     have hD6 : K.dlv S.cnt S = ((o ++ [l]) ++ (K.dlv m { Sk with del := Sk.del + 1, held := fun k => if k = Sk.del + 1 then none else Sk.held k, cnt := m }).1, (K.dlv m { Sk with del := Sk.del + 1, held := fun k => if k = Sk.del + 1 then none else Sk.held k, cnt := m }).2) := by
      rw [HD.out, K.dlv_some HF.out, show Sk.cnt - 1 = m by have := HCN.out; omega]
      simp
     have HR := Lib.hid (show DlvAt S b (b :: bm :: rv.ownBlock.toList) w m v6 w6 from ⟨_, o ++ [l], us ++ [.slice A0 n0 c0], rfl, hE6, hD6, by rw [List.length_append, ← HN3.out]; exact ho6, hv6, hT56, by show 0 ≤ Sk.del + 1; omega, by show Sk.del + 1 + (m : Int) ≤ _; omega, by rw [List.length_append, ← HN3.out, List.length_singleton]; omega⟩)
     clear ho6 hg6 hk6 hv6 hga hk56 hT56 hE6 hD6
     go_wp2
     go_roundg m
     case rel => exact HR.out
     case measure => omega
end Go.Proofs.Ytgdibcgphjmofaa
namespace Go.Proofs.Ytgdibcgphjmofaa
set_option maxHeartbeats 2000000
open Go.RowKit
open Go.Maps
set_option linter.unusedVariables false
/-- Behind the acknowledgement; behind the packet. -/
def K.ackd (S : K.E) (q : Int) : K.E := if 0 < q - S.acked then { S with wait := S.wait.drop (q - S.acked).toNat, acked := q } else S
def K.put (S : K.E) (p : Int) (s : List UInt8) : K.E := if S.del < p ∧ S.held p = none then { S with owing := true, held := fun k => if k = p then some s else S.held k, cnt := S.cnt + 1 } else { S with owing := true }
/-- What In does, plainly. -/
def K.into (S : K.E) (p q : Int) (s : List UInt8) : List (List UInt8) × Int × K.E :=
 if S.acked + (S.wait.length : Int) < q ∨ S.del + 16 < p then ([], 0, S)
 else if p = 0 then ([], 0, K.ackd S q)
 else ((K.dlv (K.put (K.ackd S q) p s).cnt (K.put (K.ackd S q) p s)).1, 0, (K.dlv (K.put (K.ackd S q) p s).cnt (K.put (K.ackd S q) p s)).2)
def K.inn (S : K.E) (l : List UInt8) : List (List UInt8) × Int × K.E :=
 if (K.unseal S.key l).2 ≠ 0 then ([], (K.unseal S.key l).2, if (K.unseal S.key l).2 = 9 then { S with forged := S.forged + 1 } else S)
 else match K.read (K.unseal S.key l).1 with
  | none => ([], 2, S)
  | some (p, q, s) => K.into S p q s
/-- What In returns. -/
def RIn (r : List (List UInt8) × Int × K.E) (b : Nat) (own : List Nat) (w : World) (e : Ending) (w' : World) : Prop := ∃ v, e = .returned (.tuple #[v, .int .i64 r.2.1]) ∧ RowV w.heap.size w' v r.1 ∧ EndAt w' b own r.2.2 ∧ TT own w w'
theorem RowV.nil (B : Nat) (w : World) : RowV B w (.slice none 0 0) [] := ⟨[], World.ownsRow_nil _ _ _ _, Vs.nil w⟩
theorem EndTo.same {b : Nat} {own : List Nat} {S : K.E} {w w' : World} (h : EndAt w b own S) (hb : Below w.heap.size w w') : EndAt w' b own S ∧ TT own w w' := ⟨h.below hb, ⟨Tc.of hb, KB.of hb⟩⟩
theorem unseal_err (key : Int) (l : List UInt8) : (K.unseal key l).2 = 0 ∨ (K.unseal key l).2 = 2 ∨ (K.unseal key l).2 = 9 := by
 unfold K.unseal
 split
 ·exact .inr (.inl rfl)
 ·split
  ·exact .inr (.inr rfl)
  ·exact .inl rfl
set_option maxRecDepth 100000 in
theorem in_2 (b : Nat) (own : List Nat) (S : K.E) (x : Value) (l : List UInt8) (w : World) (h : EndAt w b own S) (hbv : BV w x l) (hl : l.length ≤ 1000000000000) (hE : (K.unseal S.key l).2 = 2) :
  Calls Try.prog 19 #[.pointer (some ⟨b, 0, none⟩), x] w (RIn ([], 2, S) b own w) := by
 obtain ⟨A, c, rfl, hc, hm, hr, -⟩ := hbv
 have hop := open_any S.key A c w.heap.size l w hr (Nat.le_refl _) hc hm (by omega)
 have HE := Lib.hid h
 obtain ⟨rv, vs, bm, D, hx, -⟩ := h
 obtain ⟨c0, c1, c2, c3, c4, c5, c6, c7, z, l0⟩ := hx.f8
 obtain ⟨N, hN⟩ : ∃ N, N = l.length := ⟨_, rfl⟩
 rw [← hN] at hop ⊢
 have HOP := Lib.hid hop; have HER := Lib.hid hE
 clear hop hE hN hc hm hr hx hl
 go_enter Try.func19, Try.ntmps19
 go_wp2_with fail
 refine HOP.out.mono ?_
 rintro e w1 ⟨v1, rfl, hown, hb⟩
 rw [HER.out]
 have HB := Lib.hid hb
 clear hown hb c0 c1 c2 c3 c4 c5 c6 c7 z
 go_wp2
 go_ret2
 exact ⟨_, rfl, RowV.nil _ _, EndTo.same HE.out HB.out⟩
set_option maxRecDepth 100000 in
theorem in_9 (b : Nat) (own : List Nat) (S : K.E) (x : Value) (l : List UInt8) (w : World) (h : EndAt w b own S) (hbv : BV w x l) (hl : l.length ≤ 1000000000000) (hf0 : 0 ≤ S.forged) (hf1 : S.forged ≤ 1000000000) (hE : (K.unseal S.key l).2 = 9) :
  Calls Try.prog 19 #[.pointer (some ⟨b, 0, none⟩), x] w (RIn ([], 9, { S with forged := S.forged + 1 }) b own w) := by
 obtain ⟨A, c, rfl, hc, hm, hr, -⟩ := hbv
 have hop := open_any S.key A c w.heap.size l w hr (Nat.le_refl _) hc hm (by omega)
 have HE := Lib.hid h
 obtain ⟨rv, vs, bm, D, hx, -⟩ := h
 obtain ⟨c0, c1, c2, c3, c4, c5, c6, c7, z, l0⟩ := hx.f8
 obtain ⟨N, hN⟩ : ∃ N, N = l.length := ⟨_, rfl⟩
 rw [← hN] at hop ⊢
 have HOP := Lib.hid hop; have HER := Lib.hid hE
 clear hop hE hN hc hm hr hl
 go_enter Try.func19, Try.ntmps19
 go_wp2_with fail
 refine HOP.out.mono ?_
 rintro e w1 ⟨v1, rfl, hown, hb⟩
 rw [HER.out]
 have hx1 := hx.below hb
 have HB := Lib.hid hb
 clear hown hb c0 c1 c2 c3 c4 c5 c6 c7 z hx
 obtain ⟨c0, c1, c2, c3, c4, c5, c6, c7, z, l0⟩ := hx1.f8
 go_wp2
 go_ret2
 obtain ⟨h1, t1⟩ := (HE.out.below HB.out).set_ 7 (.int .i64 (S.forged + 1)) { S with forged := S.forged + 1 } (fun _ _ => rfl) rfl rfl rfl
 exact ⟨_, rfl, RowV.nil _ _, h1, (TT.rel own).trans ⟨Tc.of HB.out, KB.of HB.out⟩ t1⟩
/-- What is known behind the call of read. -/
theorem own_bv {w : World} {base : Nat} {v : Value} {l : List UInt8} (h : w.ownsRow base 5 1 v l.length (W.bc l)) : BV w v l := BV.own h
theorem unseal_len (key : Int) (l : List UInt8) : (K.unseal key l).1.length ≤ l.length := by
 unfold K.unseal
 split
 ·simp
 ·split
  ·simp
  ·simp
attribute [local go_sem] run_store_one in
set_option maxRecDepth 100000 in
theorem in_no (b : Nat) (own : List Nat) (S : K.E) (x : Value) (l : List UInt8) (w : World) (h : EndAt w b own S) (hbv : BV w x l) (hl : l.length ≤ 1000000000000) (hE : (K.unseal S.key l).2 = 0) (hR : K.read (K.unseal S.key l).1 = none) :
  Calls Try.prog 19 #[.pointer (some ⟨b, 0, none⟩), x] w (RIn ([], 2, S) b own w) := by
 obtain ⟨A, c, rfl, hc, hm, hr, -⟩ := hbv
 have hop := open_any S.key A c w.heap.size l w hr (Nat.le_refl _) hc hm (by omega)
 have HE := Lib.hid h
 obtain ⟨rv, vs, bm, D, hx, -⟩ := h
 obtain ⟨c0, c1, c2, c3, c4, c5, c6, c7, z, l0⟩ := hx.f8
 have hul := unseal_len S.key l
 obtain ⟨N, hN⟩ : ∃ N, N = l.length := ⟨_, rfl⟩
 rw [← hN] at hop hul hl ⊢
 have HOP := Lib.hid hop; have HER := Lib.hid hE; have HRD := Lib.hid hR
 clear hop hE hN hc hm hr hx hR
 go_enter Try.func19, Try.ntmps19
 go_wp2_with fail
 refine HOP.out.mono ?_
 rintro e w1 ⟨v1, rfl, hown, hb⟩
 rw [HER.out]
 obtain ⟨A1, c1', e1, h1c, h1m, h1r, -⟩ := own_bv hown
 have hrd := read_any A1 c1' w1.heap.size _ w1 h1r (Nat.le_refl _) h1c h1m (by omega)
 rw [HRD.out, ← e1] at hrd
 have HRR := Lib.hid hrd
 have HB := Lib.hid hb
 obtain rfl := e1
 clear hown hb c0 c1 c2 c3 c4 c5 c6 c7 z h1r hrd
 go_wp2_with fail
 refine HRR.out.mono ?_
 rintro e w2 ⟨u0, u1, u2, rfl, o0, o1, o2, k0⟩
 have k1 := Lib.hid (Blw HB.out k0)
 have hsz := k0.size
 clear k0
 go_wp2
 go_ret2
 exact ⟨_, rfl, RowV.nil _ _, EndTo.same HE.out (k1.out.alloc k1.out.size _)⟩
attribute [local go_sem] run_store_one in
set_option maxRecDepth 100000 in
theorem in_skip1 (b : Nat) (own : List Nat) (S : K.E) (x : Value) (l : List UInt8) (w : World) (h : EndAt w b own S) (ok : K.ok S) (hbv : BV w x l) (hl : l.length ≤ 1000000000000) (hE : (K.unseal S.key l).2 = 0) (p q : Int) (s : List UInt8) (hR : K.read (K.unseal S.key l).1 = some (p, q, s)) (hp0 : 0 ≤ p) (hq0 : 0 ≤ q) (hpm : p ≤ 9223372036854775807) (hqm : q ≤ 9223372036854775807) (hs : s.length ≤ 65536) (hq : S.acked + (S.wait.length : Int) < q) :
  Calls Try.prog 19 #[.pointer (some ⟨b, 0, none⟩), x] w (RIn ([], 0, S) b own w) := by
 obtain ⟨w1_, w2_, a1, a2, d1, d2, f1, f2, hn, hlw, hcn, hkk⟩ := ok
 obtain ⟨A, c, rfl, hc, hm, hr, -⟩ := hbv
 have hop := open_any S.key A c w.heap.size l w hr (Nat.le_refl _) hc hm (by omega)
 have HE := Lib.hid h
 have hlt := h.lt
 obtain ⟨rv, vs, bm, D, hx, hown0, hvs0, hmap0, hheld0, hown_⟩ := h
 have hbw : b < w.heap.size := hx.lt
 obtain ⟨c0, c1, c2, c3, c4, c5, c6, c7, z, l0⟩ := hx.f8
 have hul := unseal_len S.key l
 obtain ⟨N, hN⟩ : ∃ N, N = l.length := ⟨_, rfl⟩
 rw [← hN] at hop hul hl ⊢
 have HOP := Lib.hid hop; have HER := Lib.hid hE; have HRD := Lib.hid hR; have HLT := Lib.hid hlt
 have HO0 := Lib.hid hown0; have HV0 := Lib.hid hvs0; have HM0 := Lib.hid hmap0; have HH0 := Lib.hid hheld0; have HOWN := Lib.hid hown_
 clear hop hE hN hc hm hr hR hlt hlw hkk hown0 hvs0 hmap0 hheld0 hown_
 go_enter Try.func19, Try.ntmps19
 go_wp2_with fail
 refine HOP.out.mono ?_
 rintro e w1 ⟨v1, rfl, hown, hb⟩
 rw [HER.out]
 obtain ⟨A1, c1', e1, h1c, h1m, h1r, -⟩ := own_bv hown
 have hrd := read_any A1 c1' w1.heap.size _ w1 h1r (Nat.le_refl _) h1c h1m (by omega)
 rw [HRD.out, ← e1] at hrd
 have HRR := Lib.hid hrd
 have HB := Lib.hid hb
 obtain rfl := e1
 clear hown hb c0 c1 c2 c3 c4 c5 c6 c7 z h1r hrd
 go_wp2_with fail
 refine HRR.out.mono ?_
 rintro e w2 ⟨v2, rfl, hbv2, k5⟩
 have k3 := Lib.hid (Blw HB.out k5)
 have HBV2 := Lib.hid hbv2
 obtain ⟨A2, c2, rfl, -⟩ := hbv2
 obtain ⟨n2, hn2⟩ : ∃ n, n = s.length := ⟨_, rfl⟩
 rw [← hn2] at HBV2 hs ⊢
 have HN2 := Lib.hid hn2
 clear k5 hn2
 go_wp2_with fail
 generalize hW3 : w2.alloc (.cells _ 68) = w3
 obtain ⟨hx8, k4⟩ := box1 hW3
 have k6 := Lib.hid (Blw k3.out k4)
 have HBV3 := Lib.hid (HBV2.out.below k4)
 have hx3 := hx.below k6.out
 obtain ⟨g8, hg8⟩ : ∃ g, g = w2.heap.size := ⟨_, rfl⟩
 rw [← hg8] at hx8 ⊢
 have hgw : w.heap.size ≤ g8 := by rw [hg8]; exact k3.out.size
 obtain ⟨N0, hN0⟩ : ∃ N, N = S.wait.length := ⟨_, rfl⟩
 have HWN := Lib.hid hN0
 rw [← hN0] at hn
 obtain ⟨A0, k0, e0, -⟩ := own_form HO0.out
 rw [← hN0] at e0
 subst e0
 clear hW3 k4 hg8 hN0 k3 HBV2 hx
 have hw1 : IntKind.i64.wrap (S.acked + (N0 : Int)) = S.acked + (N0 : Int) := by rw [IntKind.wrap_i64]; omega
 have hw2 : IntKind.i64.wrap (S.del + 16) = S.del + 16 := by rw [IntKind.wrap_i64]; omega
 have hdq := decide_eq_true (show S.acked + (N0 : Int) < q by have := HWN.out; omega)
 go_upto_region 9 with fail
 generalize hW_9 : w3.drew = W_9
 refine gen_act ?_
 intro F_ hF_
 have ev0 : F_.eval (.tmp 0) = .pointer (some ⟨b, 0, none⟩) := by rw [← hF_]; rfl
 have ev8 : F_.eval (.tmp 8) = .pointer (some ⟨g8, 0, none⟩) := by rw [← hF_]; rfl
 have hsz_ : ∀ d ∈ ([(41, []), (42, [0]), (43, []), (44, [2]), (45, [3]), (46, [4]), (47, []), (48, [6]), (49, [7]), (50, [8]), (51, [9]), (52, [5, 10]), (53, [1, 11]), (54, [12]), (55, [13]), (56, [14, 13]), (57, [13]), (58, [16, 13]), (59, [17, 13]), (60, [18, 13]), (61, [19, 13]), (62, [15, 20, 13]), (63, [13, 21])] : List (Nat × List Nat)).map (·.1), d < F_.tmps.size := by rw [← hF_]; simp
 have HF_ := Lib.hid hF_; clear hF_
 refine wp_flow_tabG true hW_9 23 [(41, []), (42, [0]), (43, []), (44, [2]), (45, [3]), (46, [4]), (47, []), (48, [6]), (49, [7]), (50, [8]), (51, [9]), (52, [5, 10]), (53, [1, 11]), (54, [12]), (55, [13]), (56, [14, 13]), (57, [13]), (58, [16, 13]), (59, [17, 13]), (60, [18, 13]), (61, [19, 13]), (62, [15, 20, 13]), (63, [13, 21])] [SC (.pointer (some ⟨g8, 1, none⟩)), SC (.int .i64 q), SC (.pointer (some ⟨b, 0, none⟩)), SC (.pointer (some ⟨b, 0, none⟩)), SC (.pointer (some ⟨b, 3, none⟩)), SC (.int .i64 S.acked), SC (.pointer (some ⟨b, 0, none⟩)), SC (.pointer (some ⟨b, 0, none⟩)), SC (.pointer (some ⟨b, 2, none⟩)), SC (.slice A0 N0 k0), SC (.int .i64 ((N0 : Nat) : Int)), SC (.int .i64 (S.acked + (N0 : Int))), SC (.bool true), SC (.bool true), SC undef, SC undef, SC undef, SC undef, SC undef, SC undef, SC undef, SC undef, SC (.bool true)] [false, false, false, false, false, false, false, false, false, false, false, false, false, false, false, false, false, false, false, false, false, false, false] (by kernel_rfl) (by kernel_rfl) (by kernel_rfl) (by kernel_rfl) (by kernel_rfl) hsz_ ⟨SC.mono _, SC.mono _, SC.mono _, SC.mono _, SC.mono _, SC.mono _, SC.mono _, SC.mono _, SC.mono _, SC.mono _, SC.mono _, SC.mono _, SC.mono _, SC.mono _, SC.mono _, SC.mono _, SC.mono _, SC.mono _, SC.mono _, SC.mono _, SC.mono _, SC.mono _, SC.mono _, trivial⟩ ?_ ?_
 ·intro kq hkq a wx hB hp hs
  have hBo : Below w3.heap.size w3 wx := dB hW_9 hB
  have hcase : kq = 0 ∨ kq = 1 ∨ kq = 2 ∨ kq = 3 ∨ kq = 4 ∨ kq = 5 ∨ kq = 6 ∨ kq = 7 ∨ kq = 8 ∨ kq = 9 ∨ kq = 10 ∨ kq = 11 ∨ kq = 12 ∨ kq = 13 ∨ kq = 14 ∨ kq = 15 ∨ kq = 16 ∨ kq = 17 ∨ kq = 18 ∨ kq = 19 ∨ kq = 20 ∨ kq = 21 ∨ kq = 22 := by omega
  rcases hcase with rfl | rfl | rfl | rfl | rfl | rfl | rfl | rfl | rfl | rfl | rfl | rfl | rfl | rfl | rfl | rfl | rfl | rfl | rfl | rfl | rfl | rfl | rfl
  ·clear hp
   exact ⟨_, rfl, .inl ⟨wanted_none rfl, fa_link_packet_1 rfl ((hs 8 rfl).trans ev8)⟩⟩
  ·obtain ⟨k1, -⟩ := hp
   exact ⟨_, rfl, .inl ⟨wanted_none rfl, ld_int rfl k1 (hx8.below hBo) rfl⟩⟩
  ·clear hp
   exact ⟨_, rfl, .inl ⟨wanted_none rfl, op_mv (s := SC _) rfl ((hs 0 rfl).trans ev0)⟩⟩
  ·obtain ⟨k1, -⟩ := hp
   exact ⟨_, rfl, .inl ⟨wanted_none rfl, op_nil rfl k1⟩⟩
  ·obtain ⟨k1, -⟩ := hp
   exact ⟨_, rfl, .inl ⟨wanted_none rfl, fa_link_End_3 rfl k1⟩⟩
  ·obtain ⟨k1, -⟩ := hp
   exact ⟨_, rfl, .inl ⟨wanted_none rfl, ld_int rfl k1 (hx3.below hBo) rfl⟩⟩
  ·clear hp
   exact ⟨_, rfl, .inl ⟨wanted_none rfl, op_mv (s := SC _) rfl ((hs 0 rfl).trans ev0)⟩⟩
  ·obtain ⟨k1, -⟩ := hp
   exact ⟨_, rfl, .inl ⟨wanted_none rfl, op_nil rfl k1⟩⟩
  ·obtain ⟨k1, -⟩ := hp
   exact ⟨_, rfl, .inl ⟨wanted_none rfl, fa_link_End_2 rfl k1⟩⟩
  ·obtain ⟨k1, -⟩ := hp
   exact ⟨_, rfl, .inl ⟨wanted_none rfl, ld_____uint8 rfl k1 (hx3.below hBo) rfl⟩⟩
  ·obtain ⟨k1, -⟩ := hp
   have e0 : a.eval (.tmp 50) = .slice A0 N0 k0 := k1
   simp [Act.eval] at e0
   exact ⟨_, rfl, .inl ⟨wanted_none rfl, Does.val (by simp [execOp, Act.eval, e0, go_sem]) rfl⟩⟩
  ·obtain ⟨k1, k2, -⟩ := hp
   have e0 : a.eval (.tmp 46) = .int .i64 S.acked := k1
   simp [Act.eval] at e0
   have e1 : a.eval (.tmp 51) = .int .i64 ((N0 : Nat) : Int) := k2
   simp [Act.eval] at e1
   exact ⟨_, rfl, .inl ⟨wanted_none rfl, Does.val (by simp [execOp, Act.eval, e0, e1, go_sem, hw1]) rfl⟩⟩
  ·obtain ⟨k1, k2, -⟩ := hp
   have e0 : a.eval (.tmp 42) = .int .i64 q := k1
   simp [Act.eval] at e0
   have e1 : a.eval (.tmp 52) = .int .i64 (S.acked + (N0 : Int)) := k2
   simp [Act.eval] at e1
   exact ⟨_, rfl, .inl ⟨wanted_none rfl, Does.val (by simp [execOp, Act.eval, e0, e1, go_sem, hdq]) rfl⟩⟩
  ·obtain ⟨k1, -⟩ := hp
   exact ⟨_, rfl, .inl ⟨wanted_none rfl, op_mv (s := SC _) rfl k1⟩⟩
  ·obtain ⟨k1, -⟩ := hp
   have hgd : a.eval (.tmp 54) = .bool true := k1
   exact ⟨_, rfl, .inr ⟨(wanted_of rfl rfl hgd).trans rfl, rfl, rfl⟩⟩
  ·obtain ⟨k1, k2, -⟩ := hp
   have hgd : a.eval (.tmp 54) = .bool true := k2
   exact ⟨_, rfl, .inr ⟨(wanted_of rfl rfl hgd).trans rfl, rfl, rfl⟩⟩
  ·obtain ⟨k1, -⟩ := hp
   have hgd : a.eval (.tmp 54) = .bool true := k1
   exact ⟨_, rfl, .inr ⟨(wanted_of rfl rfl hgd).trans rfl, rfl, rfl⟩⟩
  ·obtain ⟨k1, k2, -⟩ := hp
   have hgd : a.eval (.tmp 54) = .bool true := k2
   exact ⟨_, rfl, .inr ⟨(wanted_of rfl rfl hgd).trans rfl, rfl, rfl⟩⟩
  ·obtain ⟨k1, k2, -⟩ := hp
   have hgd : a.eval (.tmp 54) = .bool true := k2
   exact ⟨_, rfl, .inr ⟨(wanted_of rfl rfl hgd).trans rfl, rfl, rfl⟩⟩
  ·obtain ⟨k1, k2, -⟩ := hp
   have hgd : a.eval (.tmp 54) = .bool true := k2
   exact ⟨_, rfl, .inr ⟨(wanted_of rfl rfl hgd).trans rfl, rfl, rfl⟩⟩
  ·obtain ⟨k1, k2, -⟩ := hp
   have hgd : a.eval (.tmp 54) = .bool true := k2
   exact ⟨_, rfl, .inr ⟨(wanted_of rfl rfl hgd).trans rfl, rfl, rfl⟩⟩
  ·obtain ⟨k1, k2, k7, -⟩ := hp
   have hgd : a.eval (.tmp 54) = .bool true := k7
   exact ⟨_, rfl, .inr ⟨(wanted_of rfl rfl hgd).trans rfl, rfl, rfl⟩⟩
  ·obtain ⟨k1, k2, -⟩ := hp
   have e0 : a.eval (.tmp 54) = .bool true := k1
   simp [Act.eval] at e0
   have e1 : a.eval (.tmp 62) = undef := k2
   simp [Act.eval] at e1
   exact ⟨_, rfl, .inl ⟨wanted_none rfl, Does.val (by simp [execOp, Act.eval, e0, e1, go_sem]) rfl⟩⟩
 ·intro val wx hB hsp hdis
  have hBo : Below w3.heap.size w3 wx := dB hW_9 hB
  have e22 : val 22 = .bool true := hsp 22 (by omega)
  rw [← HF_.out]
  change wpList _ _ _ [] _ _
  simp only [puts_consT, puts_nilm, vals, List.map_cons, List.map_nil, Nat.zero_add, Nat.reduceAdd, e22, List.setIfInBounds_toArray, List.set_cons_succ, List.set_cons_zero]
  clear hsp hdis HF_ hsz_ hB hW_9 e22 ev0 ev8
  have k8 := Lib.hid (Blw k6.out hBo)
  clear hBo hq hdq
  go_wp2
  go_ret2
  exact ⟨_, rfl, RowV.nil _ _, EndTo.same HE.out k8.out⟩
attribute [local go_sem] run_store_one in
set_option maxRecDepth 100000 in
theorem in_skip2 (b : Nat) (own : List Nat) (S : K.E) (x : Value) (l : List UInt8) (w : World) (h : EndAt w b own S) (ok : K.ok S) (hbv : BV w x l) (hl : l.length ≤ 1000000000000) (hE : (K.unseal S.key l).2 = 0) (p q : Int) (s : List UInt8) (hR : K.read (K.unseal S.key l).1 = some (p, q, s)) (hp0 : 0 ≤ p) (hq0 : 0 ≤ q) (hpm : p ≤ 9223372036854775807) (hqm : q ≤ 9223372036854775807) (hs : s.length ≤ 65536) (hq : ¬ S.acked + (S.wait.length : Int) < q) (hp : S.del + 16 < p) :
  Calls Try.prog 19 #[.pointer (some ⟨b, 0, none⟩), x] w (RIn ([], 0, S) b own w) := by
 obtain ⟨w1_, w2_, a1, a2, d1, d2, f1, f2, hn, hlw, hcn, hkk⟩ := ok
 obtain ⟨A, c, rfl, hc, hm, hr, -⟩ := hbv
 have hop := open_any S.key A c w.heap.size l w hr (Nat.le_refl _) hc hm (by omega)
 have HE := Lib.hid h
 have hlt := h.lt
 obtain ⟨rv, vs, bm, D, hx, hown0, hvs0, hmap0, hheld0, hown_⟩ := h
 have hbw : b < w.heap.size := hx.lt
 obtain ⟨c0, c1, c2, c3, c4, c5, c6, c7, z, l0⟩ := hx.f8
 have hul := unseal_len S.key l
 obtain ⟨N, hN⟩ : ∃ N, N = l.length := ⟨_, rfl⟩
 rw [← hN] at hop hul hl ⊢
 have HOP := Lib.hid hop; have HER := Lib.hid hE; have HRD := Lib.hid hR; have HLT := Lib.hid hlt
 have HO0 := Lib.hid hown0; have HV0 := Lib.hid hvs0; have HM0 := Lib.hid hmap0; have HH0 := Lib.hid hheld0; have HOWN := Lib.hid hown_
 clear hop hE hN hc hm hr hR hlt hlw hkk hown0 hvs0 hmap0 hheld0 hown_
 go_enter Try.func19, Try.ntmps19
 go_wp2_with fail
 refine HOP.out.mono ?_
 rintro e w1 ⟨v1, rfl, hown, hb⟩
 rw [HER.out]
 obtain ⟨A1, c1', e1, h1c, h1m, h1r, -⟩ := own_bv hown
 have hrd := read_any A1 c1' w1.heap.size _ w1 h1r (Nat.le_refl _) h1c h1m (by omega)
 rw [HRD.out, ← e1] at hrd
 have HRR := Lib.hid hrd
 have HB := Lib.hid hb
 obtain rfl := e1
 clear hown hb c0 c1 c2 c3 c4 c5 c6 c7 z h1r hrd
 go_wp2_with fail
 refine HRR.out.mono ?_
 rintro e w2 ⟨v2, rfl, hbv2, k5⟩
 have k3 := Lib.hid (Blw HB.out k5)
 have HBV2 := Lib.hid hbv2
 obtain ⟨A2, c2, rfl, -⟩ := hbv2
 obtain ⟨n2, hn2⟩ : ∃ n, n = s.length := ⟨_, rfl⟩
 rw [← hn2] at HBV2 hs ⊢
 have HN2 := Lib.hid hn2
 clear k5 hn2
 go_wp2_with fail
 generalize hW3 : w2.alloc (.cells _ 68) = w3
 obtain ⟨hx8, k4⟩ := box1 hW3
 have k6 := Lib.hid (Blw k3.out k4)
 have HBV3 := Lib.hid (HBV2.out.below k4)
 have hx3 := hx.below k6.out
 obtain ⟨g8, hg8⟩ : ∃ g, g = w2.heap.size := ⟨_, rfl⟩
 rw [← hg8] at hx8 ⊢
 have hgw : w.heap.size ≤ g8 := by rw [hg8]; exact k3.out.size
 obtain ⟨N0, hN0⟩ : ∃ N, N = S.wait.length := ⟨_, rfl⟩
 have HWN := Lib.hid hN0
 rw [← hN0] at hn
 obtain ⟨A0, k0, e0, -⟩ := own_form HO0.out
 rw [← hN0] at e0
 subst e0
 clear hW3 k4 hg8 hN0 k3 HBV2 hx
 have hw1 : IntKind.i64.wrap (S.acked + (N0 : Int)) = S.acked + (N0 : Int) := by rw [IntKind.wrap_i64]; omega
 have hw2 : IntKind.i64.wrap (S.del + 16) = S.del + 16 := by rw [IntKind.wrap_i64]; omega
 have hdq := decide_eq_false (show ¬ S.acked + (N0 : Int) < q by have := HWN.out; omega)
 have hdp := decide_eq_true (show S.del + 16 < p by omega)
 go_upto_region 9 with fail
 generalize hW_9 : w3.drew = W_9
 refine gen_act ?_
 intro F_ hF_
 have ev0 : F_.eval (.tmp 0) = .pointer (some ⟨b, 0, none⟩) := by rw [← hF_]; rfl
 have ev8 : F_.eval (.tmp 8) = .pointer (some ⟨g8, 0, none⟩) := by rw [← hF_]; rfl
 have hsz_ : ∀ d ∈ ([(41, []), (42, [0]), (43, []), (44, [2]), (45, [3]), (46, [4]), (47, []), (48, [6]), (49, [7]), (50, [8]), (51, [9]), (52, [5, 10]), (53, [1, 11]), (54, [12]), (55, [13]), (56, [14, 13]), (57, [13]), (58, [16, 13]), (59, [17, 13]), (60, [18, 13]), (61, [19, 13]), (62, [15, 20, 13]), (63, [13, 21])] : List (Nat × List Nat)).map (·.1), d < F_.tmps.size := by rw [← hF_]; simp
 have HF_ := Lib.hid hF_; clear hF_
 refine wp_flow_tabG true hW_9 23 [(41, []), (42, [0]), (43, []), (44, [2]), (45, [3]), (46, [4]), (47, []), (48, [6]), (49, [7]), (50, [8]), (51, [9]), (52, [5, 10]), (53, [1, 11]), (54, [12]), (55, [13]), (56, [14, 13]), (57, [13]), (58, [16, 13]), (59, [17, 13]), (60, [18, 13]), (61, [19, 13]), (62, [15, 20, 13]), (63, [13, 21])] [SC (.pointer (some ⟨g8, 1, none⟩)), SC (.int .i64 q), SC (.pointer (some ⟨b, 0, none⟩)), SC (.pointer (some ⟨b, 0, none⟩)), SC (.pointer (some ⟨b, 3, none⟩)), SC (.int .i64 S.acked), SC (.pointer (some ⟨b, 0, none⟩)), SC (.pointer (some ⟨b, 0, none⟩)), SC (.pointer (some ⟨b, 2, none⟩)), SC (.slice A0 N0 k0), SC (.int .i64 ((N0 : Nat) : Int)), SC (.int .i64 (S.acked + (N0 : Int))), SC (.bool false), SC (.bool false), SC (.pointer (some ⟨g8, 0, none⟩)), SC (.int .i64 p), SC (.pointer (some ⟨b, 0, none⟩)), SC (.pointer (some ⟨b, 0, none⟩)), SC (.pointer (some ⟨b, 4, none⟩)), SC (.int .i64 S.del), SC (.int .i64 (S.del + 16)), SC (.bool true), SC (.bool true)] [false, false, false, false, false, false, false, false, false, false, false, false, false, false, false, false, false, false, false, false, false, false, false] (by kernel_rfl) (by kernel_rfl) (by kernel_rfl) (by kernel_rfl) (by kernel_rfl) hsz_ ⟨SC.mono _, SC.mono _, SC.mono _, SC.mono _, SC.mono _, SC.mono _, SC.mono _, SC.mono _, SC.mono _, SC.mono _, SC.mono _, SC.mono _, SC.mono _, SC.mono _, SC.mono _, SC.mono _, SC.mono _, SC.mono _, SC.mono _, SC.mono _, SC.mono _, SC.mono _, SC.mono _, trivial⟩ ?_ ?_
 ·intro kq hkq a wx hB hp hs
  have hBo : Below w3.heap.size w3 wx := dB hW_9 hB
  have hcase : kq = 0 ∨ kq = 1 ∨ kq = 2 ∨ kq = 3 ∨ kq = 4 ∨ kq = 5 ∨ kq = 6 ∨ kq = 7 ∨ kq = 8 ∨ kq = 9 ∨ kq = 10 ∨ kq = 11 ∨ kq = 12 ∨ kq = 13 ∨ kq = 14 ∨ kq = 15 ∨ kq = 16 ∨ kq = 17 ∨ kq = 18 ∨ kq = 19 ∨ kq = 20 ∨ kq = 21 ∨ kq = 22 := by omega
  rcases hcase with rfl | rfl | rfl | rfl | rfl | rfl | rfl | rfl | rfl | rfl | rfl | rfl | rfl | rfl | rfl | rfl | rfl | rfl | rfl | rfl | rfl | rfl | rfl
  ·clear hp
   exact ⟨_, rfl, .inl ⟨wanted_none rfl, fa_link_packet_1 rfl ((hs 8 rfl).trans ev8)⟩⟩
  ·obtain ⟨k1, -⟩ := hp
   exact ⟨_, rfl, .inl ⟨wanted_none rfl, ld_int rfl k1 (hx8.below hBo) rfl⟩⟩
  ·clear hp
   exact ⟨_, rfl, .inl ⟨wanted_none rfl, op_mv (s := SC _) rfl ((hs 0 rfl).trans ev0)⟩⟩
  ·obtain ⟨k1, -⟩ := hp
   exact ⟨_, rfl, .inl ⟨wanted_none rfl, op_nil rfl k1⟩⟩
  ·obtain ⟨k1, -⟩ := hp
   exact ⟨_, rfl, .inl ⟨wanted_none rfl, fa_link_End_3 rfl k1⟩⟩
  ·obtain ⟨k1, -⟩ := hp
   exact ⟨_, rfl, .inl ⟨wanted_none rfl, ld_int rfl k1 (hx3.below hBo) rfl⟩⟩
  ·clear hp
   exact ⟨_, rfl, .inl ⟨wanted_none rfl, op_mv (s := SC _) rfl ((hs 0 rfl).trans ev0)⟩⟩
  ·obtain ⟨k1, -⟩ := hp
   exact ⟨_, rfl, .inl ⟨wanted_none rfl, op_nil rfl k1⟩⟩
  ·obtain ⟨k1, -⟩ := hp
   exact ⟨_, rfl, .inl ⟨wanted_none rfl, fa_link_End_2 rfl k1⟩⟩
  ·obtain ⟨k1, -⟩ := hp
   exact ⟨_, rfl, .inl ⟨wanted_none rfl, ld_____uint8 rfl k1 (hx3.below hBo) rfl⟩⟩
  ·obtain ⟨k1, -⟩ := hp
   have e0 : a.eval (.tmp 50) = .slice A0 N0 k0 := k1
   simp [Act.eval] at e0
   exact ⟨_, rfl, .inl ⟨wanted_none rfl, Does.val (by simp [execOp, Act.eval, e0, go_sem]) rfl⟩⟩
  ·obtain ⟨k1, k2, -⟩ := hp
   have e0 : a.eval (.tmp 46) = .int .i64 S.acked := k1
   simp [Act.eval] at e0
   have e1 : a.eval (.tmp 51) = .int .i64 ((N0 : Nat) : Int) := k2
   simp [Act.eval] at e1
   exact ⟨_, rfl, .inl ⟨wanted_none rfl, Does.val (by simp [execOp, Act.eval, e0, e1, go_sem, hw1]) rfl⟩⟩
  ·obtain ⟨k1, k2, -⟩ := hp
   have e0 : a.eval (.tmp 42) = .int .i64 q := k1
   simp [Act.eval] at e0
   have e1 : a.eval (.tmp 52) = .int .i64 (S.acked + (N0 : Int)) := k2
   simp [Act.eval] at e1
   exact ⟨_, rfl, .inl ⟨wanted_none rfl, Does.val (by simp [execOp, Act.eval, e0, e1, go_sem, hdq]) rfl⟩⟩
  ·obtain ⟨k1, -⟩ := hp
   exact ⟨_, rfl, .inl ⟨wanted_none rfl, op_mv (s := SC _) rfl k1⟩⟩
  ·obtain ⟨k1, -⟩ := hp
   have hgd : a.eval (.tmp 54) = .bool false := k1
   exact ⟨_, rfl, .inl ⟨(wanted_of rfl rfl hgd).trans rfl, fa_link_packet_0 rfl ((hs 8 rfl).trans ev8)⟩⟩
  ·obtain ⟨k1, k2, -⟩ := hp
   have hgd : a.eval (.tmp 54) = .bool false := k2
   exact ⟨_, rfl, .inl ⟨(wanted_of rfl rfl hgd).trans rfl, ld_int rfl k1 (hx8.below hBo) rfl⟩⟩
  ·obtain ⟨k1, -⟩ := hp
   have hgd : a.eval (.tmp 54) = .bool false := k1
   exact ⟨_, rfl, .inl ⟨(wanted_of rfl rfl hgd).trans rfl, op_mv (s := SC _) rfl ((hs 0 rfl).trans ev0)⟩⟩
  ·obtain ⟨k1, k2, -⟩ := hp
   have hgd : a.eval (.tmp 54) = .bool false := k2
   exact ⟨_, rfl, .inl ⟨(wanted_of rfl rfl hgd).trans rfl, op_nil rfl k1⟩⟩
  ·obtain ⟨k1, k2, -⟩ := hp
   have hgd : a.eval (.tmp 54) = .bool false := k2
   exact ⟨_, rfl, .inl ⟨(wanted_of rfl rfl hgd).trans rfl, fa_link_End_4 rfl k1⟩⟩
  ·obtain ⟨k1, k2, -⟩ := hp
   have hgd : a.eval (.tmp 54) = .bool false := k2
   exact ⟨_, rfl, .inl ⟨(wanted_of rfl rfl hgd).trans rfl, ld_int rfl k1 (hx3.below hBo) rfl⟩⟩
  ·obtain ⟨k1, k2, -⟩ := hp
   have hgd : a.eval (.tmp 54) = .bool false := k2
   have e0 : a.eval (.tmp 60) = .int .i64 S.del := k1
   simp [Act.eval] at e0
   exact ⟨_, rfl, .inl ⟨(wanted_of rfl rfl hgd).trans rfl, Does.val (by simp [execOp, Act.eval, e0, go_sem, hw2]) rfl⟩⟩
  ·obtain ⟨k1, k2, k7, -⟩ := hp
   have hgd : a.eval (.tmp 54) = .bool false := k7
   have e0 : a.eval (.tmp 56) = .int .i64 p := k1
   simp [Act.eval] at e0
   have e1 : a.eval (.tmp 61) = .int .i64 (S.del + 16) := k2
   simp [Act.eval] at e1
   exact ⟨_, rfl, .inl ⟨(wanted_of rfl rfl hgd).trans rfl, Does.val (by simp [execOp, Act.eval, e0, e1, go_sem, hdp]) rfl⟩⟩
  ·obtain ⟨k1, k2, -⟩ := hp
   have e0 : a.eval (.tmp 54) = .bool false := k1
   simp [Act.eval] at e0
   have e1 : a.eval (.tmp 62) = .bool true := k2
   simp [Act.eval] at e1
   exact ⟨_, rfl, .inl ⟨wanted_none rfl, Does.val (by simp [execOp, Act.eval, e0, e1, go_sem]) rfl⟩⟩
 ·intro val wx hB hsp hdis
  have hBo : Below w3.heap.size w3 wx := dB hW_9 hB
  have e22 : val 22 = .bool true := hsp 22 (by omega)
  rw [← HF_.out]
  change wpList _ _ _ [] _ _
  simp only [puts_consT, puts_nilm, vals, List.map_cons, List.map_nil, Nat.zero_add, Nat.reduceAdd, e22, List.setIfInBounds_toArray, List.set_cons_succ, List.set_cons_zero]
  clear hsp hdis HF_ hsz_ hB hW_9 e22 ev0 ev8
  have k8 := Lib.hid (Blw k6.out hBo)
  clear hBo hq hdq hp hdp
  go_wp2
  go_ret2
  exact ⟨_, rfl, RowV.nil _ _, EndTo.same HE.out k8.out⟩
end Go.Proofs.Ytgdibcgphjmofaa
namespace Go.Proofs.Ytgdibcgphjmofaa
set_option maxHeartbeats 2000000
open Go.RowKit
open Go.Maps
set_option linter.unusedVariables false
def AckAt (S : K.E) (q : Int) (b : Nat) (own : List Nat) (w wx : World) : Prop := EndAt wx b own (K.ackd S q) ∧ TT own w wx
theorem ack_yes {w5 w6 : World} {b bm : Nat} {S : K.E} {rv v6 : Value} {vs : List Value} {D : DataW Value} {n : Nat} {q : Int}
  (hx : Bx w5 b 65 (K.cells S rv bm)) (hown : w5.ownsRow 0 33 1 rv S.wait.length vs) (hvs : Vs w5 vs S.wait) (hmap : w5.ownsMap Try.prog 3 RV bm S.cnt D) (hheld : HeldIs w5 D S.held)
  (hn : q - S.acked = (n : Int)) (h0 : 0 < n) (ho6 : w6.ownsRow 0 33 1 v6 (S.wait.length - n) (vs.drop n)) (hb6 : v6.ownBlock = rv.ownBlock) (ht : TT rv.ownBlock.toList w5 w6) :
  EndAt ((w6.setCell ⟨b, 2, none⟩ v6).setCell ⟨b, 3, none⟩ (.int .i64 q)) b (b :: bm :: rv.ownBlock.toList) (K.ackd S q) ∧ TT (b :: bm :: rv.ownBlock.toList) w5 ((w6.setCell ⟨b, 2, none⟩ v6).setCell ⟨b, 3, none⟩ (.int .i64 q)) := by
 obtain ⟨hne, hnr⟩ := end_ne hx hown hmap
 have hbR : b ∉ rv.ownBlock.toList := fun e => (hnr b (by simpa using e)).1 rfl
 have hmR : bm ∉ rv.ownBlock.toList := fun e => (hnr bm (by simpa using e)).2 rfl
 have hx6 : Bx w6 b 65 (K.cells S rv bm) := hx.tc ht.1 hbR
 have hx7 := hx6.set_ 2 v6
 have hk7 : KB w6 (w6.setCell ⟨b, 2, none⟩ v6) := (KB.refl _).set_ hx6 (by decide) _
 have hk8 : KB (w6.setCell ⟨b, 2, none⟩ v6) ((w6.setCell ⟨b, 2, none⟩ v6).setCell ⟨b, 3, none⟩ (.int .i64 q)) := (KB.refl _).set_ hx7 (by decide) _
 have hk : KB w5 ((w6.setCell ⟨b, 2, none⟩ v6).setCell ⟨b, 3, none⟩ (.int .i64 q)) := (ht.2.trans hk7).trans hk8
 have hrow : ∀ k, v6.ownBlock = some k → k ≠ b := fun k hk => by rw [hb6] at hk; exact (hnr k hk).1.symm
 have hS : K.ackd S q = { S with wait := S.wait.drop n, acked := q } := by
  unfold K.ackd
  rw [if_pos (by omega), hn]
  rfl
 rw [hS]
 refine ⟨⟨v6, vs.drop n, bm, D, hx7.set_ 3 _, ?_, (hvs.drop n).kb hk, map_set (map_set (map_tc hmap ht.1 hmR) (fun e => hne e.symm) _) (fun e => hne e.symm) _, hheld.kb hk, by rw [hb6]⟩, ((ht.1.mono (fun k hk => by simp [List.mem_cons] at hk ⊢; exact .inr (.inr hk))).set_ (.inl (by simp)) _).set_ (.inl (by simp)) _, hk⟩
 have h := row_set (row_set ho6 (p := ⟨b, 2, none⟩) hrow v6) (p := ⟨b, 3, none⟩) hrow (.int .i64 q)
 simpa using h
theorem look_any {w : World} {bm n : Nat} {D : DataW Value} {k : Int} (hk : W.Is64 k) (hm : w.ownsMap Try.prog 3 RV bm n D) :
  ∃ (v : Value) (g : Bool), ∀ wx : World, wx.ownsMap Try.prog 3 RV bm n D → (Instr.lookup 63 (.map (some bm)) (.int .i64 k) true).run Try.prog wx = .ok (.tuple #[v, .bool g]) wx := by
 obtain ⟨v', ps, hr, hv⟩ := hm.look_ok law_int Try.underlying63 (zeroE w) (zd := zd) (zp := []) rfl (hkey64 hk)
 refine ⟨v', Maps.has D (.int .i64 k), fun wx hx => ?_⟩
 obtain ⟨v2, ps2, hr2, hv2⟩ := hx.look_ok law_int Try.underlying63 (zeroE wx) (zd := zd) (zp := []) rfl (hkey64 hk)
 have e : v2 = v' := by
  unfold RV at hv hv2
  injection hv with hv
  injection hv with hv _
  injection hv2 with hv2
  injection hv2 with hv2 _
  rw [← hv] at hv2
  injection hv2
 rw [e] at hr2
 exact hr2
theorem K.put_yes {S : K.E} {p : Int} {s : List UInt8} (h1 : S.del < p) (h2 : S.held p = none) : K.put S p s = { S with owing := true, held := fun k => if k = p then some s else S.held k, cnt := S.cnt + 1 } := by
 unfold K.put
 rw [if_pos ⟨h1, h2⟩]
theorem K.put_no {S : K.E} {p : Int} {s : List UInt8} (h : ¬ (S.del < p ∧ S.held p = none)) : K.put S p s = { S with owing := true } := by
 unfold K.put
 rw [if_neg h]
theorem HeldIs.put {w : World} {D : DataW Value} {f : Int → Option (List UInt8)} (h : HeldIs w D f) (hD : IsMap D) {x : Int} (hx : W.Is64 x) {v : Value} {l : List UInt8} (hv : BV w v l) : HeldIs w (D.put (.int .i64 x) (.held v)) (fun k => if k = x then some l else f k) := by
 intro k hk
 by_cases hkx : k = x
 ·subst hkx
  simp only [if_true]
  refine ⟨(fun h => by cases h), fun l' hl => ?_⟩
  injection hl with hl
  subst hl
  exact ⟨has_put_same hD (law_int.key (hkey64 hx)) _, v, atKey_put_same hD (law_int.key (hkey64 hx)) _ _, hv⟩
 ·have hne : (Lit.int .i64 k) ≠ (Lit.int .i64 x) := fun e => by injection e with _ e; exact hkx e
  simp only [if_neg hkx]
  rw [has_put_other hne, atKey_put_other hne]
  exact h k hk
/-- The end behind the store into its map. -/
theorem in_put {w w' : World} {b bm : Nat} {S1 : K.E} {rv v : Value} {vs : List Value} {D : DataW Value} {p : Int} {s : List UInt8}
  (hx : Bx w b 65 [.int .i64 S1.win, .int .u64 S1.key, rv, .int .i64 S1.acked, .int .i64 S1.del, .map (some bm), .bool true, .int .i64 S1.forged]) (hown : w.ownsRow 0 33 1 rv S1.wait.length vs) (hvs : Vs w vs S1.wait) (hm : w.ownsMap Try.prog 3 RV bm S1.cnt D) (hh : HeldIs w D S1.held) (hp : W.Is64 p) (hv : BV w v s)
  (hm2 : w'.ownsMap Try.prog 3 RV bm (S1.cnt + 1) (D.put (.int .i64 p) (.held v))) (hg : w.grownBy w' (some bm)) :
  EndAt w' b (b :: bm :: rv.ownBlock.toList) { S1 with owing := true, held := fun k => if k = p then some s else S1.held k, cnt := S1.cnt + 1 } ∧ TT (b :: bm :: rv.ownBlock.toList) w w' := by
 obtain ⟨hne, hnr⟩ := end_ne hx hown hm
 have hk : KB w w' := (KB.refl _).grown hg (fun k hk cs fr e => by
  injection hk with hk; subst hk
  obtain ⟨es, ck, h1, _⟩ := hm
  rw [h1] at e; cases e)
 refine ⟨⟨rv, vs, bm, _, (hg.block b hx.lt (fun e => by injection e with e; exact hne e)).trans hx, ?_, hvs.kb hk, hm2, (hh.put hm.isMap hp hv).kb hk, rfl⟩, (Tc.refl _ _).grown hg (fun k hk => by injection hk with hk; subst hk; exact .inl (by simp)), hk⟩
 exact hown.kept hg (by
  rcases hq : rv.ownBlock with _ | k
  ·exact .inl rfl
  ·exact .inr (fun e => by injection e with e; exact (hnr k hq).2 e.symm))
theorem RowV.base {B B' : Nat} {w : World} {v : Value} {ls : List (List UInt8)} (h : RowV B w v ls) (hB : B' ≤ B) : RowV B' w v ls := by
 obtain ⟨vs, h1, h2⟩ := h
 exact ⟨vs, own_base h1 hB, h2⟩
def RDone (r : List (List UInt8) × Int × K.E) (b : Nat) (own : List Nat) (w : World) (e : Ending) (w' : World) : Prop := ∃ v, e = .returned v ∧ RIn r b own w (.returned (.tuple #[v, .int .i64 0])) w'
theorem in_deliver2 {b : Nat} {own : List Nat} {S1 S3 : K.E} {p : Int} {s : List UInt8} {w w9 : World} (hT : TT own w w9) (hE : EndAt w9 b own S3) (h3 : K.put S1 p s = S3) (hd0 : 0 ≤ S3.del) (hd1 : S3.del ≤ 1000000000) (hc : S3.cnt ≤ 1000000000) :
  Calls Try.prog 38 #[.pointer (some ⟨b, 0, none⟩)] w9 (RDone ((K.dlv (K.put S1 p s).cnt (K.put S1 p s)).1, 0, (K.dlv (K.put S1 p s).cnt (K.put S1 p s)).2) b own w) := by
 rw [h3]
 refine (deliver_any b own S3 w9 hE hd0 hd1 hc).mono ?_
 rintro e w12 ⟨v12, rfl, hr, hE12, hT12⟩
 exact ⟨v12, rfl, v12, rfl, hr.base hT.1.size, hE12, (TT.rel own).trans hT hT12⟩
theorem in_deliver {b : Nat} {own own2 : List Nat} {S1 S3 : K.E} {p : Int} {s : List UInt8} {w w9 w11 : World} (hT : TT own w w9) (ho : own = own2) (hE : EndAt w11 b own2 S3 ∧ TT own2 w9 w11) (h3 : K.put S1 p s = S3) (hd0 : 0 ≤ S3.del) (hd1 : S3.del ≤ 1000000000) (hc : S3.cnt ≤ 1000000000) :
  Calls Try.prog 38 #[.pointer (some ⟨b, 0, none⟩)] w11 (RDone ((K.dlv (K.put S1 p s).cnt (K.put S1 p s)).1, 0, (K.dlv (K.put S1 p s).cnt (K.put S1 p s)).2) b own w) := by
 subst ho
 exact in_deliver2 (S1 := S1) (p := p) (s := s) ((TT.rel own).trans hT hE.2) hE.1 h3 hd0 hd1 hc
attribute [local go_sem] run_store_one in
set_option maxRecDepth 100000 in
theorem in_main (b : Nat) (own : List Nat) (S : K.E) (x : Value) (l : List UInt8) (w : World) (h : EndAt w b own S) (ok : K.ok S) (hbv : BV w x l) (hl : l.length ≤ 1000000000000) (hE : (K.unseal S.key l).2 = 0) (p q : Int) (s : List UInt8) (hR : K.read (K.unseal S.key l).1 = some (p, q, s)) (hp0 : 0 ≤ p) (hq0 : 0 ≤ q) (hpm : p ≤ 9223372036854775807) (hqm : q ≤ 9223372036854775807) (hs : s.length ≤ 65536) (hq : ¬ S.acked + (S.wait.length : Int) < q) (hp : ¬ S.del + 16 < p) :
  Calls Try.prog 19 #[.pointer (some ⟨b, 0, none⟩), x] w (RIn (K.into S p q s) b own w) := by
 obtain ⟨w1_, w2_, a1, a2, d1, d2, f1, f2, hn, hlw, hcn, hkk⟩ := ok
 obtain ⟨A, c, rfl, hc, hm, hr, -⟩ := hbv
 have hop := open_any S.key A c w.heap.size l w hr (Nat.le_refl _) hc hm (by omega)
 have HE := Lib.hid h
 have hlt := h.lt
 obtain ⟨rv, vs, bm, D, hx, hown0, hvs0, hmap0, hheld0, hown_⟩ := h
 have hbw : b < w.heap.size := hx.lt
 obtain ⟨c0, c1, c2, c3, c4, c5, c6, c7, z, l0⟩ := hx.f8
 have hul := unseal_len S.key l
 obtain ⟨N, hN⟩ : ∃ N, N = l.length := ⟨_, rfl⟩
 rw [← hN] at hop hul hl ⊢
 have HOP := Lib.hid hop; have HER := Lib.hid hE; have HRD := Lib.hid hR; have HLT := Lib.hid hlt
 have HO0 := Lib.hid hown0; have HV0 := Lib.hid hvs0; have HM0 := Lib.hid hmap0; have HH0 := Lib.hid hheld0; have HOWN := Lib.hid hown_
 clear hop hE hN hc hm hr hR hlt hlw hkk hown0 hvs0 hmap0 hheld0 hown_
 go_enter Try.func19, Try.ntmps19
 go_wp2_with fail
 refine HOP.out.mono ?_
 rintro e w1 ⟨v1, rfl, hown, hb⟩
 rw [HER.out]
 obtain ⟨A1, c1', e1, h1c, h1m, h1r, -⟩ := own_bv hown
 have hrd := read_any A1 c1' w1.heap.size _ w1 h1r (Nat.le_refl _) h1c h1m (by omega)
 rw [HRD.out, ← e1] at hrd
 have HRR := Lib.hid hrd
 have HB := Lib.hid hb
 obtain rfl := e1
 clear hown hb c0 c1 c2 c3 c4 c5 c6 c7 z h1r hrd
 go_wp2_with fail
 refine HRR.out.mono ?_
 rintro e w2 ⟨v2, rfl, hbv2, kd⟩
 have k9 := Lib.hid (Blw HB.out kd)
 have HBV2 := Lib.hid hbv2
 obtain ⟨A2, c2, rfl, -⟩ := hbv2
 obtain ⟨n2, hn2⟩ : ∃ n, n = s.length := ⟨_, rfl⟩
 rw [← hn2] at HBV2 hs ⊢
 have HN2 := Lib.hid hn2
 clear kd hn2
 go_wp2_with fail
 generalize hW3 : w2.alloc (.cells _ 68) = w3
 obtain ⟨hx8, ka⟩ := box1 hW3
 have kc := Lib.hid (Blw k9.out ka)
 have HBV3 := Lib.hid (HBV2.out.below ka)
 have hx3 := hx.below kc.out
 obtain ⟨g8, hg8⟩ : ∃ g, g = w2.heap.size := ⟨_, rfl⟩
 rw [← hg8] at hx8 ⊢
 have hgw : w.heap.size ≤ g8 := by rw [hg8]; exact k9.out.size
 obtain ⟨N0, hN0⟩ : ∃ N, N = S.wait.length := ⟨_, rfl⟩
 have HWN := Lib.hid hN0
 rw [← hN0] at hn
 obtain ⟨A0, k0, e0, -⟩ := own_form HO0.out
 rw [← hN0] at e0
 subst e0
 clear hW3 ka hg8 hN0 k9 HBV2 hx
 have hw1 : IntKind.i64.wrap (S.acked + (N0 : Int)) = S.acked + (N0 : Int) := by rw [IntKind.wrap_i64]; omega
 have hw2 : IntKind.i64.wrap (S.del + 16) = S.del + 16 := by rw [IntKind.wrap_i64]; omega
 have hdq := decide_eq_false (show ¬ S.acked + (N0 : Int) < q by have := HWN.out; omega)
 have hdp := decide_eq_false (show ¬ S.del + 16 < p by omega)
 have hqN : q - S.acked ≤ (N0 : Int) := by have := HWN.out; omega
 go_upto_region 9 with fail
 generalize hW_9 : w3.drew = W_9
 refine gen_act ?_
 intro F_ hF_
 have ev0 : F_.eval (.tmp 0) = .pointer (some ⟨b, 0, none⟩) := by rw [← hF_]; rfl
 have ev8 : F_.eval (.tmp 8) = .pointer (some ⟨g8, 0, none⟩) := by rw [← hF_]; rfl
 have hsz_ : ∀ d ∈ ([(41, []), (42, [0]), (43, []), (44, [2]), (45, [3]), (46, [4]), (47, []), (48, [6]), (49, [7]), (50, [8]), (51, [9]), (52, [5, 10]), (53, [1, 11]), (54, [12]), (55, [13]), (56, [14, 13]), (57, [13]), (58, [16, 13]), (59, [17, 13]), (60, [18, 13]), (61, [19, 13]), (62, [15, 20, 13]), (63, [13, 21])] : List (Nat × List Nat)).map (·.1), d < F_.tmps.size := by rw [← hF_]; simp
 have HF_ := Lib.hid hF_; clear hF_
 refine wp_flow_tabG true hW_9 23 [(41, []), (42, [0]), (43, []), (44, [2]), (45, [3]), (46, [4]), (47, []), (48, [6]), (49, [7]), (50, [8]), (51, [9]), (52, [5, 10]), (53, [1, 11]), (54, [12]), (55, [13]), (56, [14, 13]), (57, [13]), (58, [16, 13]), (59, [17, 13]), (60, [18, 13]), (61, [19, 13]), (62, [15, 20, 13]), (63, [13, 21])] [SC (.pointer (some ⟨g8, 1, none⟩)), SC (.int .i64 q), SC (.pointer (some ⟨b, 0, none⟩)), SC (.pointer (some ⟨b, 0, none⟩)), SC (.pointer (some ⟨b, 3, none⟩)), SC (.int .i64 S.acked), SC (.pointer (some ⟨b, 0, none⟩)), SC (.pointer (some ⟨b, 0, none⟩)), SC (.pointer (some ⟨b, 2, none⟩)), SC (.slice A0 N0 k0), SC (.int .i64 ((N0 : Nat) : Int)), SC (.int .i64 (S.acked + (N0 : Int))), SC (.bool false), SC (.bool false), SC (.pointer (some ⟨g8, 0, none⟩)), SC (.int .i64 p), SC (.pointer (some ⟨b, 0, none⟩)), SC (.pointer (some ⟨b, 0, none⟩)), SC (.pointer (some ⟨b, 4, none⟩)), SC (.int .i64 S.del), SC (.int .i64 (S.del + 16)), SC (.bool false), SC (.bool false)] [false, false, false, false, false, false, false, false, false, false, false, false, false, false, false, false, false, false, false, false, false, false, false] (by kernel_rfl) (by kernel_rfl) (by kernel_rfl) (by kernel_rfl) (by kernel_rfl) hsz_ ⟨SC.mono _, SC.mono _, SC.mono _, SC.mono _, SC.mono _, SC.mono _, SC.mono _, SC.mono _, SC.mono _, SC.mono _, SC.mono _, SC.mono _, SC.mono _, SC.mono _, SC.mono _, SC.mono _, SC.mono _, SC.mono _, SC.mono _, SC.mono _, SC.mono _, SC.mono _, SC.mono _, trivial⟩ ?_ ?_
 ·intro kq hkq a wx hB hp hs
  have hBo : Below w3.heap.size w3 wx := dB hW_9 hB
  have hcase : kq = 0 ∨ kq = 1 ∨ kq = 2 ∨ kq = 3 ∨ kq = 4 ∨ kq = 5 ∨ kq = 6 ∨ kq = 7 ∨ kq = 8 ∨ kq = 9 ∨ kq = 10 ∨ kq = 11 ∨ kq = 12 ∨ kq = 13 ∨ kq = 14 ∨ kq = 15 ∨ kq = 16 ∨ kq = 17 ∨ kq = 18 ∨ kq = 19 ∨ kq = 20 ∨ kq = 21 ∨ kq = 22 := by omega
  rcases hcase with rfl | rfl | rfl | rfl | rfl | rfl | rfl | rfl | rfl | rfl | rfl | rfl | rfl | rfl | rfl | rfl | rfl | rfl | rfl | rfl | rfl | rfl | rfl
  ·clear hp
   exact ⟨_, rfl, .inl ⟨wanted_none rfl, fa_link_packet_1 rfl ((hs 8 rfl).trans ev8)⟩⟩
  ·obtain ⟨k1, -⟩ := hp
   exact ⟨_, rfl, .inl ⟨wanted_none rfl, ld_int rfl k1 (hx8.below hBo) rfl⟩⟩
  ·clear hp
   exact ⟨_, rfl, .inl ⟨wanted_none rfl, op_mv (s := SC _) rfl ((hs 0 rfl).trans ev0)⟩⟩
  ·obtain ⟨k1, -⟩ := hp
   exact ⟨_, rfl, .inl ⟨wanted_none rfl, op_nil rfl k1⟩⟩
  ·obtain ⟨k1, -⟩ := hp
   exact ⟨_, rfl, .inl ⟨wanted_none rfl, fa_link_End_3 rfl k1⟩⟩
  ·obtain ⟨k1, -⟩ := hp
   exact ⟨_, rfl, .inl ⟨wanted_none rfl, ld_int rfl k1 (hx3.below hBo) rfl⟩⟩
  ·clear hp
   exact ⟨_, rfl, .inl ⟨wanted_none rfl, op_mv (s := SC _) rfl ((hs 0 rfl).trans ev0)⟩⟩
  ·obtain ⟨k1, -⟩ := hp
   exact ⟨_, rfl, .inl ⟨wanted_none rfl, op_nil rfl k1⟩⟩
  ·obtain ⟨k1, -⟩ := hp
   exact ⟨_, rfl, .inl ⟨wanted_none rfl, fa_link_End_2 rfl k1⟩⟩
  ·obtain ⟨k1, -⟩ := hp
   exact ⟨_, rfl, .inl ⟨wanted_none rfl, ld_____uint8 rfl k1 (hx3.below hBo) rfl⟩⟩
  ·obtain ⟨k1, -⟩ := hp
   have e0 : a.eval (.tmp 50) = .slice A0 N0 k0 := k1
   simp [Act.eval] at e0
   exact ⟨_, rfl, .inl ⟨wanted_none rfl, Does.val (by simp [execOp, Act.eval, e0, go_sem]) rfl⟩⟩
  ·obtain ⟨k1, k2, -⟩ := hp
   have e0 : a.eval (.tmp 46) = .int .i64 S.acked := k1
   simp [Act.eval] at e0
   have e1 : a.eval (.tmp 51) = .int .i64 ((N0 : Nat) : Int) := k2
   simp [Act.eval] at e1
   exact ⟨_, rfl, .inl ⟨wanted_none rfl, Does.val (by simp [execOp, Act.eval, e0, e1, go_sem, hw1]) rfl⟩⟩
  ·obtain ⟨k1, k2, -⟩ := hp
   have e0 : a.eval (.tmp 42) = .int .i64 q := k1
   simp [Act.eval] at e0
   have e1 : a.eval (.tmp 52) = .int .i64 (S.acked + (N0 : Int)) := k2
   simp [Act.eval] at e1
   exact ⟨_, rfl, .inl ⟨wanted_none rfl, Does.val (by simp [execOp, Act.eval, e0, e1, go_sem, hdq]) rfl⟩⟩
  ·obtain ⟨k1, -⟩ := hp
   exact ⟨_, rfl, .inl ⟨wanted_none rfl, op_mv (s := SC _) rfl k1⟩⟩
  ·obtain ⟨k1, -⟩ := hp
   have hgd : a.eval (.tmp 54) = .bool false := k1
   exact ⟨_, rfl, .inl ⟨(wanted_of rfl rfl hgd).trans rfl, fa_link_packet_0 rfl ((hs 8 rfl).trans ev8)⟩⟩
  ·obtain ⟨k1, k2, -⟩ := hp
   have hgd : a.eval (.tmp 54) = .bool false := k2
   exact ⟨_, rfl, .inl ⟨(wanted_of rfl rfl hgd).trans rfl, ld_int rfl k1 (hx8.below hBo) rfl⟩⟩
  ·obtain ⟨k1, -⟩ := hp
   have hgd : a.eval (.tmp 54) = .bool false := k1
   exact ⟨_, rfl, .inl ⟨(wanted_of rfl rfl hgd).trans rfl, op_mv (s := SC _) rfl ((hs 0 rfl).trans ev0)⟩⟩
  ·obtain ⟨k1, k2, -⟩ := hp
   have hgd : a.eval (.tmp 54) = .bool false := k2
   exact ⟨_, rfl, .inl ⟨(wanted_of rfl rfl hgd).trans rfl, op_nil rfl k1⟩⟩
  ·obtain ⟨k1, k2, -⟩ := hp
   have hgd : a.eval (.tmp 54) = .bool false := k2
   exact ⟨_, rfl, .inl ⟨(wanted_of rfl rfl hgd).trans rfl, fa_link_End_4 rfl k1⟩⟩
  ·obtain ⟨k1, k2, -⟩ := hp
   have hgd : a.eval (.tmp 54) = .bool false := k2
   exact ⟨_, rfl, .inl ⟨(wanted_of rfl rfl hgd).trans rfl, ld_int rfl k1 (hx3.below hBo) rfl⟩⟩
  ·obtain ⟨k1, k2, -⟩ := hp
   have hgd : a.eval (.tmp 54) = .bool false := k2
   have e0 : a.eval (.tmp 60) = .int .i64 S.del := k1
   simp [Act.eval] at e0
   exact ⟨_, rfl, .inl ⟨(wanted_of rfl rfl hgd).trans rfl, Does.val (by simp [execOp, Act.eval, e0, go_sem, hw2]) rfl⟩⟩
  ·obtain ⟨k1, k2, kh, -⟩ := hp
   have hgd : a.eval (.tmp 54) = .bool false := kh
   have e0 : a.eval (.tmp 56) = .int .i64 p := k1
   simp [Act.eval] at e0
   have e1 : a.eval (.tmp 61) = .int .i64 (S.del + 16) := k2
   simp [Act.eval] at e1
   exact ⟨_, rfl, .inl ⟨(wanted_of rfl rfl hgd).trans rfl, Does.val (by simp [execOp, Act.eval, e0, e1, go_sem, hdp]) rfl⟩⟩
  ·obtain ⟨k1, k2, -⟩ := hp
   have e0 : a.eval (.tmp 54) = .bool false := k1
   simp [Act.eval] at e0
   have e1 : a.eval (.tmp 62) = .bool false := k2
   simp [Act.eval] at e1
   exact ⟨_, rfl, .inl ⟨wanted_none rfl, Does.val (by simp [execOp, Act.eval, e0, e1, go_sem]) rfl⟩⟩
 ·intro val wx hB hsp hdis
  have hBo : Below w3.heap.size w3 wx := dB hW_9 hB
  have e22 : val 22 = .bool false := hsp 22 (by omega)
  rw [← HF_.out]
  change wpList _ _ _ [] _ _
  simp only [puts_consT, puts_nilm, vals, List.map_cons, List.map_nil, Nat.zero_add, Nat.reduceAdd, e22, List.setIfInBounds_toArray, List.set_cons_succ, List.set_cons_zero]
  clear hsp hdis HF_ hsz_ hB hW_9 e22 ev0 ev8
  obtain ⟨w4, rfl⟩ : ∃ w4 : World, w4 = wx := ⟨_, rfl⟩
  have ke := Lib.hid (Blw kc.out hBo)
  have hx4 := hx3.below hBo
  have hx84 := hx8.below hBo
  have HBV4 := Lib.hid (HBV3.out.below hBo)
  have hw3 : IntKind.i64.wrap (q - S.acked) = q - S.acked := by rw [IntKind.wrap_i64]; omega
  clear hBo hdq hdp hx3 hx8 HBV3 kc
  go_wp2_with fail
  go_upto_region 11 with fail
  generalize hW_11 : w4.drew = W_11
  refine gen_act ?_
  intro F_ hF_
  have ev0 : F_.eval (.tmp 0) = .pointer (some ⟨b, 0, none⟩) := by rw [← hF_]; rfl
  have ev8 : F_.eval (.tmp 8) = .pointer (some ⟨g8, 0, none⟩) := by rw [← hF_]; rfl
  have hsz_ : ∀ d ∈ ([(64, []), (65, [0]), (66, []), (67, [2]), (68, [3]), (69, [4]), (70, [1, 5]), (10, [6])] : List (Nat × List Nat)).map (·.1), d < F_.tmps.size := by rw [← hF_]; simp
  have HF_ := Lib.hid hF_; clear hF_
  refine wp_flow_tab true hW_11 8 [(64, []), (65, [0]), (66, []), (67, [2]), (68, [3]), (69, [4]), (70, [1, 5]), (10, [6])] [SC (.pointer (some ⟨g8, 1, none⟩)), SC (.int .i64 q), SC (.pointer (some ⟨b, 0, none⟩)), SC (.pointer (some ⟨b, 0, none⟩)), SC (.pointer (some ⟨b, 3, none⟩)), SC (.int .i64 S.acked), SC (.int .i64 (q - S.acked)), SC (.int .i64 (q - S.acked))] [false, false, false, false, false, false, false, false] (by kernel_rfl) (by kernel_rfl) (by kernel_rfl) (by kernel_rfl) (by kernel_rfl) hsz_ ⟨SC.mono _, SC.mono _, SC.mono _, SC.mono _, SC.mono _, SC.mono _, SC.mono _, SC.mono _, trivial⟩ ?_ ?_
  ·intro kq hkq a wx hB hp hs
   have hBo : Below w4.heap.size w4 wx := dB hW_11 hB
   have hcase : kq = 0 ∨ kq = 1 ∨ kq = 2 ∨ kq = 3 ∨ kq = 4 ∨ kq = 5 ∨ kq = 6 ∨ kq = 7 := by omega
   rcases hcase with rfl | rfl | rfl | rfl | rfl | rfl | rfl | rfl
   ·clear hp
    exact ⟨_, rfl, fa_link_packet_1 rfl ((hs 8 rfl).trans ev8)⟩
   ·obtain ⟨k1, -⟩ := hp
    exact ⟨_, rfl, ld_int rfl k1 (hx84.below hBo) rfl⟩
   ·clear hp
    exact ⟨_, rfl, op_mv (s := SC _) rfl ((hs 0 rfl).trans ev0)⟩
   ·obtain ⟨k1, -⟩ := hp
    exact ⟨_, rfl, op_nil rfl k1⟩
   ·obtain ⟨k1, -⟩ := hp
    exact ⟨_, rfl, fa_link_End_3 rfl k1⟩
   ·obtain ⟨k1, -⟩ := hp
    exact ⟨_, rfl, ld_int rfl k1 (hx4.below hBo) rfl⟩
   ·obtain ⟨k1, k2, -⟩ := hp
    have e0 : a.eval (.tmp 65) = .int .i64 q := k1
    simp [Act.eval] at e0
    have e1 : a.eval (.tmp 69) = .int .i64 S.acked := k2
    simp [Act.eval] at e1
    exact ⟨_, rfl, Does.val (by simp [execOp, Act.eval, e0, e1, go_sem, hw3]) rfl⟩
   ·obtain ⟨k1, -⟩ := hp
    exact ⟨_, rfl, op_as (s := SC _) rfl k1⟩
  ·intro val wx hB hsp hdis
   have hBo : Below w4.heap.size w4 wx := dB hW_11 hB
   have e7 : val 7 = .int .i64 (q - S.acked) := hsp 7 (by omega)
   rw [← HF_.out]
   change wpList _ _ _ [] _ _
   simp only [puts_consT, puts_nilm, vals, List.map_cons, List.map_nil, Nat.zero_add, Nat.reduceAdd, e7, List.setIfInBounds_toArray, List.set_cons_succ, List.set_cons_zero]
   clear hsp hdis HF_ hsz_ hB hW_11 e7 ev0 ev8
   obtain ⟨w5, rfl⟩ : ∃ w5 : World, w5 = wx := ⟨_, rfl⟩
   have k4 := Lib.hid (Blw ke.out hBo)
   have hx5 := hx4.below hBo
   have hx85 := hx84.below hBo
   have HBV5 := Lib.hid (HBV4.out.below hBo)
   clear hBo hx4 hx84 HBV4 ke
   go_upto_if 72 with fail
   have HX5 := Lib.hid (show Bx w5 b 65 (K.cells S (.slice A0 N0 k0) bm) from hx5)
   have HO5 := Lib.hid (own_below HO0.out k4.out)
   have HV5 := Lib.hid (HV0.out.kb (.of k4.out))
   have HM5 := Lib.hid (map_tc HM0.out (Tc.of k4.out) (R := []) (by simp))
   have HH5 := Lib.hid (HH0.out.kb (.of k4.out))
   go_cut [] (fun wx => Hid (AckAt S q b own w wx) ∧ Hid (Bx wx g8 68 [.int .i64 p, .int .i64 q, .slice A2 n2 c2]) ∧ Hid (BV wx (.slice A2 n2 c2) s))
   case first =>
    by_cases hn1 : 0 < q - S.acked
    ·have hnd := decide_eq_true hn1
     obtain ⟨n, hnn⟩ : ∃ n : Nat, q - S.acked = (n : Int) := ⟨(q - S.acked).toNat, by omega⟩
     have hdel := delete_any (.slice A0 N0 k0) N0 n vs w5 (by have h := HO5.out; rw [← HWN.out] at h; exact h) HV5.out.one (by omega) (by omega)
     rw [← hnn] at hdel
     have HDEL := Lib.hid hdel; have HNN := Lib.hid hnn
     clear hdel hnn
     obtain ⟨c0, c1, c2, c3, c4, c5, c6, c7, z, l0⟩ := hx5.f8
     go_wp2_with fail
     refine HDEL.out.mono ?_
     rintro e w6 ⟨v6, rfl, ho6, kf, ht6⟩
     have hnr := (end_ne HX5.out HO5.out HM5.out).2
     have hbR : b ∉ (Value.slice A0 N0 k0).ownBlock.toList := fun e => (hnr b (by simpa using e)).1 rfl
     have hgR : g8 ∉ (Value.slice A0 N0 k0).ownBlock.toList := fun e => by have := (HO0.out.lt g8 (by simpa using e)).2; omega
     have hx6 := hx5.tc ht6.1 hbR
     have hx86 := hx85.tc ht6.1 hgR
     obtain ⟨A6, k6, e6, -⟩ := own_form ho6
     subst e6
     have HA := Lib.hid (ack_yes HX5.out HO5.out HV5.out HM5.out HH5.out HNN.out (by have := HNN.out; omega) (by rw [← HWN.out]; exact ho6) kf ht6)
     have HT6 := Lib.hid ht6
     have hgb : g8 ≠ b := by omega
     clear c0 c1 c2 c3 c4 c5 c6 c7 z l0 ho6 kf ht6 hnr hbR hgR
     obtain ⟨c0, c1, c2, c3, c4, c5, c6, c7, z, l0⟩ := hx6.f8
     obtain ⟨d0, d1, d2, z2, l2⟩ := f3 hx86
     go_wp2_with fail
     go_meet
     have hg : g8 ≠ b := hgb
     refine ⟨Lib.hid ?_, Lib.hid ?_, Lib.hid ?_⟩
     ·rw [HOWN.out]; exact ⟨HA.out.1, (TT.rel _).trans ⟨Tc.of k4.out, KB.of k4.out⟩ HA.out.2⟩
     ·exact (hx86.far_ hg _).far_ hg _
     ·exact HBV5.out.kb HA.out.2.2
    ·have hnd := decide_eq_false hn1
     have hS : K.ackd S q = S := by unfold K.ackd; rw [if_neg hn1]
     have HS := Lib.hid hS
     clear hS
     go_wp2_with fail
     go_meet
     refine ⟨Lib.hid ⟨?_, ⟨Tc.of k4.out, KB.of k4.out⟩⟩, Lib.hid hx85, HBV5⟩
     rw [HS.out]; exact HE.out.below k4.out
   case rest =>
    obtain ⟨HA, HX8, HBVc⟩ := hcut
    obtain ⟨hE1, hT1⟩ := HA.out
    have hx8c := HX8.out
    have hS1 : (K.ackd S q).del = S.del ∧ (K.ackd S q).held = S.held ∧ (K.ackd S q).cnt = S.cnt := by unfold K.ackd; split <;> exact ⟨rfl, rfl, rfl⟩
    have hin : K.into S p q s = if p = 0 then ([], 0, K.ackd S q) else ((K.dlv (K.put (K.ackd S q) p s).cnt (K.put (K.ackd S q) p s)).1, 0, (K.dlv (K.put (K.ackd S q) p s).cnt (K.put (K.ackd S q) p s)).2) := by
     unfold K.into
     rw [if_neg (by rintro (h | h) <;> omega)]
    generalize K.ackd S q = S1 at hE1 hS1 hin
    have HIN := Lib.hid hin
    have HE1 := Lib.hid hE1; have HT1 := Lib.hid hT1
    have hdel : S1.del = S.del := hS1.1
    have hd3 : 0 ≤ S1.del := by omega
    have hd4 : S1.del ≤ 1000000000 := by omega
    have kj : S1.cnt ≤ 900000000 := by have := hS1.2.2; omega
    have hp5 : p ≤ S1.del + 16 := by omega
    clear hin HA HX8 hE1 hT1 hS1 hdel hx5 hx85 HX5 HO5 HV5 HM5 HH5 HBV5 k4 HWN HOWN
    obtain ⟨d0, d1_, d2_, z2, l2⟩ := f3 hx8c
    by_cases hp00 : p = 0
    ·subst hp00
     go_wp2
     go_ret2
     rw [HIN.out]
     first | rw [if_pos rfl] | rw [if_pos trivial]
     exact ⟨_, rfl, RowV.nil _ _, HE1.out, HT1.out⟩
    ·have hpz : ((p : Int) == 0) = false := beq_eq_false_iff_ne.2 hp00
     have HIN2 := Lib.hid (HIN.out.trans (if_neg hp00))
     have HP0 := Lib.hid hp00; clear hp00 HIN
     have hx_c : ∃ rv bm, Bx wc b 65 (K.cells S1 rv bm) := by
      obtain ⟨rv, vs, bm, D, h, _⟩ := HE1.out
      exact ⟨rv, bm, h⟩
     obtain ⟨rvc, bmc, hxc⟩ := hx_c
     obtain ⟨c0, c1, c2_, c3, c4, c5, c6, c7, z, l0⟩ := Bx.f8 (show Bx wc b _ [_, _, _, _, _, _, _, _] from hxc)
     go_upto_region 18 with fail
     generalize hW7 : wc.setCell ⟨b, 6, none⟩ _ = w7
     obtain ⟨hE7, hT7⟩ := HE1.out.set_ 6 (.bool true) { S1 with owing := true } (fun _ _ => rfl) rfl rfl rfl
     rw [hW7] at hE7 hT7
     have hgb : g8 ≠ b := by omega
     have hx87 : Bx w7 g8 68 [.int .i64 p, .int .i64 q, .slice A2 n2 c2] := by rw [← hW7]; exact hx8c.far_ hgb _
     have HBV7 := Lib.hid (HBVc.out.kb hT7.2)
     have HT7 := Lib.hid ((TT.rel own).trans HT1.out hT7)
     have HE7 := Lib.hid hE7
     obtain ⟨rv7, vs7, bm7, D7, hx7, hown7, hvs7, hmap7, hheld7, hown_7⟩ := hE7
     have HO7 := Lib.hid hown7; have HV7 := Lib.hid hvs7; have HM7 := Lib.hid hmap7; have HH7 := Lib.hid hheld7; have HW7 := Lib.hid hown_7
     have hp64 : W.Is64 p := by unfold W.Is64; omega
     have hh := hheld7 p hp64
     clear hW7 hT7 hown7 hvs7 hmap7 hheld7 hown_7 c0 c1 c2_ c3 c4 c5 c6 c7 z l0 d0 d1_ d2_ z2 l2 hx8c hxc HBVc
     by_cases hpp : S1.del < p
     ·have hpd := decide_eq_true hpp
      rcases hf : S1.held p with _ | l7
      ·have HLK := Lib.hid (fun (wx : World) (hB : Below w7.heap.size w7 wx) => look_none (map_tc HM7.out (Tc.of hB) (R := []) (by simp)) hp64 (hh.1 hf))
       have HF := Lib.hid hf
       clear hh hf
       go_wp2_with fail
       go_upto_region 18 with fail
       generalize hW_18 : w7.drew = W_18
       refine gen_act ?_
       intro F_ hF_
       have ev0 : F_.eval (.tmp 0) = .pointer (some ⟨b, 0, none⟩) := by rw [← hF_]; rfl
       have ev8 : F_.eval (.tmp 8) = .pointer (some ⟨g8, 0, none⟩) := by rw [← hF_]; rfl
       have hsz_ : ∀ d ∈ ([(94, []), (95, [0]), (96, [1]), (97, [2]), (98, []), (99, [4]), (100, [3, 5]), (93, [6]), (101, [7]), (102, [7]), (11, [8]), (12, [9])] : List (Nat × List Nat)).map (·.1), d < F_.tmps.size := by rw [← hF_]; simp
       have HF_ := Lib.hid hF_; clear hF_
       refine wp_flow_tab true hW_18 12 [(94, []), (95, [0]), (96, [1]), (97, [2]), (98, []), (99, [4]), (100, [3, 5]), (93, [6]), (101, [7]), (102, [7]), (11, [8]), (12, [9])] [SC (.pointer (some ⟨b, 0, none⟩)), SC (.pointer (some ⟨b, 0, none⟩)), SC (.pointer (some ⟨b, 5, none⟩)), SC (.map (some bm7)), SC (.pointer (some ⟨g8, 0, none⟩)), SC (.int .i64 p), SC (.tuple #[.slice none 0 0, .bool false]), SC (.tuple #[.slice none 0 0, .bool false]), SC (.slice none 0 0), SC (.bool false), SC (.slice none 0 0), SC (.bool false)] [false, false, false, false, false, false, false, false, false, false, false, false] (by kernel_rfl) (by kernel_rfl) (by kernel_rfl) (by kernel_rfl) (by kernel_rfl) hsz_ ⟨SC.mono _, SC.mono _, SC.mono _, SC.mono _, SC.mono _, SC.mono _, SC.mono _, SC.mono _, SC.mono _, SC.mono _, SC.mono _, SC.mono _, trivial⟩ ?_ ?_
       ·intro kq hkq a wx hB hp hs
        have hBo : Below w7.heap.size w7 wx := dB hW_18 hB
        have hcase : kq = 0 ∨ kq = 1 ∨ kq = 2 ∨ kq = 3 ∨ kq = 4 ∨ kq = 5 ∨ kq = 6 ∨ kq = 7 ∨ kq = 8 ∨ kq = 9 ∨ kq = 10 ∨ kq = 11 := by omega
        rcases hcase with rfl | rfl | rfl | rfl | rfl | rfl | rfl | rfl | rfl | rfl | rfl | rfl
        ·clear hp
         exact ⟨_, rfl, op_mv (s := SC _) rfl ((hs 0 rfl).trans ev0)⟩
        ·obtain ⟨k1, -⟩ := hp
         exact ⟨_, rfl, op_nil rfl k1⟩
        ·obtain ⟨k1, -⟩ := hp
         exact ⟨_, rfl, fa_link_End_5 rfl k1⟩
        ·obtain ⟨k1, -⟩ := hp
         exact ⟨_, rfl, ld_map_int___uint8 rfl k1 (hx7.below hBo) rfl⟩
        ·clear hp
         exact ⟨_, rfl, fa_link_packet_0 rfl ((hs 8 rfl).trans ev8)⟩
        ·obtain ⟨k1, -⟩ := hp
         exact ⟨_, rfl, ld_int rfl k1 (hx87.below hBo) rfl⟩
        ·obtain ⟨k1, k2, -⟩ := hp
         have e0 : a.eval (.tmp 97) = .map (some bm7) := k1
         simp [Act.eval] at e0
         have e1 : a.eval (.tmp 99) = .int .i64 p := k2
         simp [Act.eval] at e1
         exact ⟨_, rfl, Does.val (by simp [execOp, Act.eval, e0, e1, go_sem, HLK.out wx hBo]) rfl⟩
        ·obtain ⟨k1, -⟩ := hp
         exact ⟨_, rfl, op_mv (s := SC _) rfl k1⟩
        ·obtain ⟨k1, -⟩ := hp
         have e0 : a.eval (.tmp 93) = .tuple #[.slice none 0 0, .bool false] := k1
         simp [Act.eval] at e0
         exact ⟨_, rfl, Does.val (by simp [execOp, Act.eval, e0, go_sem]) rfl⟩
        ·obtain ⟨k1, -⟩ := hp
         have e0 : a.eval (.tmp 93) = .tuple #[.slice none 0 0, .bool false] := k1
         simp [Act.eval] at e0
         exact ⟨_, rfl, Does.val (by simp [execOp, Act.eval, e0, go_sem]) rfl⟩
        ·obtain ⟨k1, -⟩ := hp
         exact ⟨_, rfl, op_as (s := SC _) rfl k1⟩
        ·obtain ⟨k1, -⟩ := hp
         exact ⟨_, rfl, op_as (s := SC _) rfl k1⟩
       ·intro val wx hB hsp hdis
        have hBo : Below w7.heap.size w7 wx := dB hW_18 hB
        have e10 : val 10 = .slice none 0 0 := hsp 10 (by omega)
        have e11 : val 11 = .bool false := hsp 11 (by omega)
        rw [← HF_.out]
        change wpList _ _ _ [] _ _
        simp only [puts_consT, puts_nilm, vals, List.map_cons, List.map_nil, Nat.zero_add, Nat.reduceAdd, e10, e11, List.setIfInBounds_toArray, List.set_cons_succ, List.set_cons_zero]
        clear hsp hdis HF_ hsz_ hB hW_18 e10 e11 ev0 ev8
        obtain ⟨w8, rfl⟩ : ∃ w8 : World, w8 = wx := ⟨_, rfl⟩
        have k5 := Lib.hid hBo
        have hx8_ := hx7.below hBo
        have hx88 := hx87.below hBo
        clear hBo hx7 hx87 HLK
        go_wp2_with fail
        go_upto_region 19 with fail
        generalize hW_19 : w8.drew = W_19
        refine gen_act ?_
        intro F_ hF_
        have ev0 : F_.eval (.tmp 0) = .pointer (some ⟨b, 0, none⟩) := by rw [← hF_]; rfl
        have ev8 : F_.eval (.tmp 8) = .pointer (some ⟨g8, 0, none⟩) := by rw [← hF_]; rfl
        have ev12 : F_.eval (.tmp 12) = .bool false := by rw [← hF_]; rfl
        have hsz_ : ∀ d ∈ ([(103, []), (104, [0]), (105, []), (106, [2]), (107, [3]), (108, [4]), (109, [1, 5]), (110, [6]), (111, [7]), (112, [8, 7]), (113, [7, 9])] : List (Nat × List Nat)).map (·.1), d < F_.tmps.size := by rw [← hF_]; simp
        have HF_ := Lib.hid hF_; clear hF_
        refine wp_flow_tabG true hW_19 11 [(103, []), (104, [0]), (105, []), (106, [2]), (107, [3]), (108, [4]), (109, [1, 5]), (110, [6]), (111, [7]), (112, [8, 7]), (113, [7, 9])] [SC (.pointer (some ⟨g8, 0, none⟩)), SC (.int .i64 p), SC (.pointer (some ⟨b, 0, none⟩)), SC (.pointer (some ⟨b, 0, none⟩)), SC (.pointer (some ⟨b, 4, none⟩)), SC (.int .i64 S1.del), SC (.bool true), SC (.bool true), SC (.bool false), SC (.bool true), SC (.bool true)] [false, false, false, false, false, false, false, false, false, false, false] (by kernel_rfl) (by kernel_rfl) (by kernel_rfl) (by kernel_rfl) (by kernel_rfl) hsz_ ⟨SC.mono _, SC.mono _, SC.mono _, SC.mono _, SC.mono _, SC.mono _, SC.mono _, SC.mono _, SC.mono _, SC.mono _, SC.mono _, trivial⟩ ?_ ?_
        ·intro kq hkq a wx hB hp hs
         have hBo : Below w8.heap.size w8 wx := dB hW_19 hB
         have hcase : kq = 0 ∨ kq = 1 ∨ kq = 2 ∨ kq = 3 ∨ kq = 4 ∨ kq = 5 ∨ kq = 6 ∨ kq = 7 ∨ kq = 8 ∨ kq = 9 ∨ kq = 10 := by omega
         rcases hcase with rfl | rfl | rfl | rfl | rfl | rfl | rfl | rfl | rfl | rfl | rfl
         ·clear hp
          exact ⟨_, rfl, .inl ⟨wanted_none rfl, fa_link_packet_0 rfl ((hs 8 rfl).trans ev8)⟩⟩
         ·obtain ⟨k1, -⟩ := hp
          exact ⟨_, rfl, .inl ⟨wanted_none rfl, ld_int rfl k1 (hx88.below hBo) rfl⟩⟩
         ·clear hp
          exact ⟨_, rfl, .inl ⟨wanted_none rfl, op_mv (s := SC _) rfl ((hs 0 rfl).trans ev0)⟩⟩
         ·obtain ⟨k1, -⟩ := hp
          exact ⟨_, rfl, .inl ⟨wanted_none rfl, op_nil rfl k1⟩⟩
         ·obtain ⟨k1, -⟩ := hp
          exact ⟨_, rfl, .inl ⟨wanted_none rfl, fa_link_End_4 rfl k1⟩⟩
         ·obtain ⟨k1, -⟩ := hp
          exact ⟨_, rfl, .inl ⟨wanted_none rfl, ld_int rfl k1 (hx8_.below hBo) rfl⟩⟩
         ·obtain ⟨k1, k2, -⟩ := hp
          have e0 : a.eval (.tmp 104) = .int .i64 p := k1
          simp [Act.eval] at e0
          have e1 : a.eval (.tmp 108) = .int .i64 S1.del := k2
          simp [Act.eval] at e1
          exact ⟨_, rfl, .inl ⟨wanted_none rfl, Does.val (by simp [execOp, Act.eval, e0, e1, go_sem, hpd]) rfl⟩⟩
         ·obtain ⟨k1, -⟩ := hp
          exact ⟨_, rfl, .inl ⟨wanted_none rfl, op_mv (s := SC _) rfl k1⟩⟩
         ·obtain ⟨k1, -⟩ := hp
          have hgd : a.eval (.tmp 110) = .bool true := k1
          exact ⟨_, rfl, .inl ⟨(wanted_of rfl rfl hgd).trans rfl, op_mv (s := SC _) rfl ((hs 12 rfl).trans ev12)⟩⟩
         ·obtain ⟨k1, k2, -⟩ := hp
          have hgd : a.eval (.tmp 110) = .bool true := k2
          have e0 : a.eval (.tmp 111) = .bool false := k1
          simp [Act.eval] at e0
          exact ⟨_, rfl, .inl ⟨(wanted_of rfl rfl hgd).trans rfl, Does.val (by simp [execOp, Act.eval, e0, go_sem]) rfl⟩⟩
         ·obtain ⟨k1, k2, -⟩ := hp
          have e0 : a.eval (.tmp 110) = .bool true := k1
          simp [Act.eval] at e0
          have e1 : a.eval (.tmp 112) = .bool true := k2
          simp [Act.eval] at e1
          exact ⟨_, rfl, .inl ⟨wanted_none rfl, Does.val (by simp [execOp, Act.eval, e0, e1, go_sem]) rfl⟩⟩
        ·intro val wx hB hsp hdis
         have hBo : Below w8.heap.size w8 wx := dB hW_19 hB
         have e10 : val 10 = .bool true := hsp 10 (by omega)
         rw [← HF_.out]
         change wpList _ _ _ [] _ _
         simp only [puts_consT, puts_nilm, vals, List.map_cons, List.map_nil, Nat.zero_add, Nat.reduceAdd, e10, List.setIfInBounds_toArray, List.set_cons_succ, List.set_cons_zero]
         clear hsp hdis HF_ hsz_ hB hW_19 e10 ev0 ev8 ev12
         obtain ⟨w9, rfl⟩ : ∃ w9 : World, w9 = wx := ⟨_, rfl⟩
         have k3 := Lib.hid (Blw k5.out hBo)
         have hx9 := hx8_.below hBo
         have hx89 := hx88.below hBo
         clear hBo hx8_ hx88 hpd k5
         have hs9 := Lib.hid (show s.length ≤ 140737488355328 by have := HN2.out; omega)
         have HBV9 := Lib.hid (HBV7.out.below k3.out)
         have HM9 := Lib.hid (map_tc HM7.out (Tc.of k3.out) (R := []) (by simp))
         have HO9 := Lib.hid (own_below HO7.out k3.out)
         have HV9 := Lib.hid (HV7.out.kb (.of k3.out))
         have HH9 := Lib.hid (HH7.out.kb (.of k3.out))
         have HT9 := Lib.hid ((TT.rel own).trans HT7.out ⟨Tc.of k3.out, KB.of k3.out⟩)
         clear HM7 HO7 HV7 HH7 HBV7 HT7 HE7
         go_wp2_with fail
         go_upto_region 20 with fail
         generalize hW_20 : w9.drew = W_20
         refine gen_act ?_
         intro F_ hF_
         have ev0 : F_.eval (.tmp 0) = .pointer (some ⟨b, 0, none⟩) := by rw [← hF_]; rfl
         have ev8 : F_.eval (.tmp 8) = .pointer (some ⟨g8, 0, none⟩) := by rw [← hF_]; rfl
         have hsz_ : ∀ d ∈ ([(114, []), (115, [0]), (116, [1]), (117, [2]), (118, []), (119, [4]), (120, []), (121, [6]), (122, [7])] : List (Nat × List Nat)).map (·.1), d < F_.tmps.size := by rw [← hF_]; simp
         have HF_ := Lib.hid hF_; clear hF_
         refine wp_flow_tab true hW_20 9 [(114, []), (115, [0]), (116, [1]), (117, [2]), (118, []), (119, [4]), (120, []), (121, [6]), (122, [7])] [SC (.pointer (some ⟨b, 0, none⟩)), SC (.pointer (some ⟨b, 0, none⟩)), SC (.pointer (some ⟨b, 5, none⟩)), SC (.map (some bm7)), SC (.pointer (some ⟨g8, 0, none⟩)), SC (.int .i64 p), SC (.pointer (some ⟨g8, 2, none⟩)), SC (.slice A2 n2 c2), SY s] [false, false, false, false, false, false, false, false, false] (by kernel_rfl) (by kernel_rfl) (by kernel_rfl) (by kernel_rfl) (by kernel_rfl) hsz_ ⟨SC.mono _, SC.mono _, SC.mono _, SC.mono _, SC.mono _, SC.mono _, SC.mono _, SC.mono _, SY.mono _, trivial⟩ ?_ ?_
         ·intro kq hkq a wx hB hp hs
          have hBo : Below w9.heap.size w9 wx := dB hW_20 hB
          have hcase : kq = 0 ∨ kq = 1 ∨ kq = 2 ∨ kq = 3 ∨ kq = 4 ∨ kq = 5 ∨ kq = 6 ∨ kq = 7 ∨ kq = 8 := by omega
          rcases hcase with rfl | rfl | rfl | rfl | rfl | rfl | rfl | rfl | rfl
          ·clear hp
           exact ⟨_, rfl, op_mv (s := SC _) rfl ((hs 0 rfl).trans ev0)⟩
          ·obtain ⟨k1, -⟩ := hp
           exact ⟨_, rfl, op_nil rfl k1⟩
          ·obtain ⟨k1, -⟩ := hp
           exact ⟨_, rfl, fa_link_End_5 rfl k1⟩
          ·obtain ⟨k1, -⟩ := hp
           exact ⟨_, rfl, ld_map_int___uint8 rfl k1 (hx9.below hBo) rfl⟩
          ·clear hp
           exact ⟨_, rfl, fa_link_packet_0 rfl ((hs 8 rfl).trans ev8)⟩
          ·obtain ⟨k1, -⟩ := hp
           exact ⟨_, rfl, ld_int rfl k1 (hx89.below hBo) rfl⟩
          ·clear hp
           exact ⟨_, rfl, fa_link_packet_2 rfl ((hs 8 rfl).trans ev8)⟩
          ·obtain ⟨k1, -⟩ := hp
           exact ⟨_, rfl, ld___uint8 rfl k1 (hx89.below hBo) rfl⟩
          ·obtain ⟨k1, -⟩ := hp
           exact ⟨_, rfl, Does.ry (f := 32) (call1 rfl (fun _ => by simp [go_sem]) k1) (clone_bv (HBV9.out.below hBo) hs9.out)⟩
         ·intro val wx hB hsp hdis
          have hBo : Below w9.heap.size w9 wx := dB hW_20 hB
          have e3 : val 3 = .map (some bm7) := hsp 3 (by omega)
          have e5 : val 5 = .int .i64 p := hsp 5 (by omega)
          obtain ⟨u8, e8⟩ : ∃ v, val 8 = v := ⟨_, rfl⟩
          have h8 := hsp 8 (by omega)
          rw [e8] at h8
          change (SY s) _ u8 at h8
          rw [← HF_.out]
          change wpList _ _ _ [_] _ _
          simp only [puts_consT, puts_nilm, vals, List.map_cons, List.map_nil, Nat.zero_add, Nat.reduceAdd, e3, e5, e8, List.setIfInBounds_toArray, List.set_cons_succ, List.set_cons_zero]
          clear hsp hdis HF_ hsz_ hB hW_20 e3 e5 e8 ev0 ev8
          obtain ⟨w10, rfl⟩ : ∃ w10 : World, w10 = wx := ⟨_, rfl⟩
          have k7 := Lib.hid hBo
          have HV8 := Lib.hid h8
          obtain ⟨A9, c9, rfl, -⟩ := h8
          have HM10 := Lib.hid (map_tc HM9.out (Tc.of k7.out) (R := []) (by simp))
          have hx10 := hx9.below k7.out
          clear hBo hx9 hx89
          go_wp2_with (at_mapUpdate; refine wpList_mapUpdate_own _ rfl _ _ _ 63 rfl 3 33 law_int Try.underlying63 RV bm7 S1.cnt D7 rfl HM10.out (by unfold maxLen; omega) _ _ (.int .i64 p) rfl rfl (hkey64 hp64) (.held _) [] rfl ?_)
          intro w11 hm11 hg11
          have hE11 := in_put hx10 (own_below HO9.out k7.out) (HV9.out.kb (.of k7.out)) HM10.out (HH9.out.kb (.of k7.out)) hp64 HV8.out hm11 hg11
          have HR11 := Lib.hid (in_deliver (p := p) (s := s) ((TT.rel own).trans HT9.out ⟨Tc.of k7.out, KB.of k7.out⟩) HW7.out hE11 (K.put_yes hpp HF.out) hd3 hd4 (by show S1.cnt + 1 ≤ _; omega))
          clear hm11 hg11 hE11 hx10
          go_wp2_with fail
          refine HR11.out.mono ?_
          rintro e w12 ⟨v12, rfl, HR12⟩
          go_wp2
          go_ret2
          rw [HIN2.out]
          exact HR12
      ·obtain ⟨hyes, v0, ha0, hbv0⟩ := hh.2 l7 hf
       have HLK := Lib.hid (fun (wx : World) (hB : Below w7.heap.size w7 wx) => look_some (map_tc HM7.out (Tc.of hB) (R := []) (by simp)) hp64 hyes ha0)
       have HF := Lib.hid (show ¬ (S1.del < p ∧ S1.held p = none) from fun h => by rw [hf] at h; cases h.2)
       obtain ⟨A9, n9, c9, rfl⟩ : ∃ A n c, v0 = .slice A n c := by obtain ⟨A, c, h, _⟩ := hbv0; exact ⟨_, _, _, h⟩
       clear hh hf hyes ha0 hbv0
       go_wp2_with fail
       go_upto_region 18 with fail
       generalize hW_18 : w7.drew = W_18
       refine gen_act ?_
       intro F_ hF_
       have ev0 : F_.eval (.tmp 0) = .pointer (some ⟨b, 0, none⟩) := by rw [← hF_]; rfl
       have ev8 : F_.eval (.tmp 8) = .pointer (some ⟨g8, 0, none⟩) := by rw [← hF_]; rfl
       have hsz_ : ∀ d ∈ ([(94, []), (95, [0]), (96, [1]), (97, [2]), (98, []), (99, [4]), (100, [3, 5]), (93, [6]), (101, [7]), (102, [7]), (11, [8]), (12, [9])] : List (Nat × List Nat)).map (·.1), d < F_.tmps.size := by rw [← hF_]; simp
       have HF_ := Lib.hid hF_; clear hF_
       refine wp_flow_tab true hW_18 12 [(94, []), (95, [0]), (96, [1]), (97, [2]), (98, []), (99, [4]), (100, [3, 5]), (93, [6]), (101, [7]), (102, [7]), (11, [8]), (12, [9])] [SC (.pointer (some ⟨b, 0, none⟩)), SC (.pointer (some ⟨b, 0, none⟩)), SC (.pointer (some ⟨b, 5, none⟩)), SC (.map (some bm7)), SC (.pointer (some ⟨g8, 0, none⟩)), SC (.int .i64 p), SC (.tuple #[.slice A9 n9 c9, .bool true]), SC (.tuple #[.slice A9 n9 c9, .bool true]), SC (.slice A9 n9 c9), SC (.bool true), SC (.slice A9 n9 c9), SC (.bool true)] [false, false, false, false, false, false, false, false, false, false, false, false] (by kernel_rfl) (by kernel_rfl) (by kernel_rfl) (by kernel_rfl) (by kernel_rfl) hsz_ ⟨SC.mono _, SC.mono _, SC.mono _, SC.mono _, SC.mono _, SC.mono _, SC.mono _, SC.mono _, SC.mono _, SC.mono _, SC.mono _, SC.mono _, trivial⟩ ?_ ?_
       ·intro kq hkq a wx hB hp hs
        have hBo : Below w7.heap.size w7 wx := dB hW_18 hB
        have hcase : kq = 0 ∨ kq = 1 ∨ kq = 2 ∨ kq = 3 ∨ kq = 4 ∨ kq = 5 ∨ kq = 6 ∨ kq = 7 ∨ kq = 8 ∨ kq = 9 ∨ kq = 10 ∨ kq = 11 := by omega
        rcases hcase with rfl | rfl | rfl | rfl | rfl | rfl | rfl | rfl | rfl | rfl | rfl | rfl
        ·clear hp
         exact ⟨_, rfl, op_mv (s := SC _) rfl ((hs 0 rfl).trans ev0)⟩
        ·obtain ⟨k1, -⟩ := hp
         exact ⟨_, rfl, op_nil rfl k1⟩
        ·obtain ⟨k1, -⟩ := hp
         exact ⟨_, rfl, fa_link_End_5 rfl k1⟩
        ·obtain ⟨k1, -⟩ := hp
         exact ⟨_, rfl, ld_map_int___uint8 rfl k1 (hx7.below hBo) rfl⟩
        ·clear hp
         exact ⟨_, rfl, fa_link_packet_0 rfl ((hs 8 rfl).trans ev8)⟩
        ·obtain ⟨k1, -⟩ := hp
         exact ⟨_, rfl, ld_int rfl k1 (hx87.below hBo) rfl⟩
        ·obtain ⟨k1, k2, -⟩ := hp
         have e0 : a.eval (.tmp 97) = .map (some bm7) := k1
         simp [Act.eval] at e0
         have e1 : a.eval (.tmp 99) = .int .i64 p := k2
         simp [Act.eval] at e1
         exact ⟨_, rfl, Does.val (by simp [execOp, Act.eval, e0, e1, go_sem, HLK.out wx hBo]) rfl⟩
        ·obtain ⟨k1, -⟩ := hp
         exact ⟨_, rfl, op_mv (s := SC _) rfl k1⟩
        ·obtain ⟨k1, -⟩ := hp
         have e0 : a.eval (.tmp 93) = .tuple #[.slice A9 n9 c9, .bool true] := k1
         simp [Act.eval] at e0
         exact ⟨_, rfl, Does.val (by simp [execOp, Act.eval, e0, go_sem]) rfl⟩
        ·obtain ⟨k1, -⟩ := hp
         have e0 : a.eval (.tmp 93) = .tuple #[.slice A9 n9 c9, .bool true] := k1
         simp [Act.eval] at e0
         exact ⟨_, rfl, Does.val (by simp [execOp, Act.eval, e0, go_sem]) rfl⟩
        ·obtain ⟨k1, -⟩ := hp
         exact ⟨_, rfl, op_as (s := SC _) rfl k1⟩
        ·obtain ⟨k1, -⟩ := hp
         exact ⟨_, rfl, op_as (s := SC _) rfl k1⟩
       ·intro val wx hB hsp hdis
        have hBo : Below w7.heap.size w7 wx := dB hW_18 hB
        have e10 : val 10 = .slice A9 n9 c9 := hsp 10 (by omega)
        have e11 : val 11 = .bool true := hsp 11 (by omega)
        rw [← HF_.out]
        change wpList _ _ _ [] _ _
        simp only [puts_consT, puts_nilm, vals, List.map_cons, List.map_nil, Nat.zero_add, Nat.reduceAdd, e10, e11, List.setIfInBounds_toArray, List.set_cons_succ, List.set_cons_zero]
        clear hsp hdis HF_ hsz_ hB hW_18 e10 e11 ev0 ev8
        obtain ⟨w8, rfl⟩ : ∃ w8 : World, w8 = wx := ⟨_, rfl⟩
        have k5 := Lib.hid hBo
        have hx8_ := hx7.below hBo
        have hx88 := hx87.below hBo
        clear hBo hx7 hx87 HLK
        go_wp2_with fail
        go_upto_region 19 with fail
        generalize hW_19 : w8.drew = W_19
        refine gen_act ?_
        intro F_ hF_
        have ev0 : F_.eval (.tmp 0) = .pointer (some ⟨b, 0, none⟩) := by rw [← hF_]; rfl
        have ev8 : F_.eval (.tmp 8) = .pointer (some ⟨g8, 0, none⟩) := by rw [← hF_]; rfl
        have ev12 : F_.eval (.tmp 12) = .bool true := by rw [← hF_]; rfl
        have hsz_ : ∀ d ∈ ([(103, []), (104, [0]), (105, []), (106, [2]), (107, [3]), (108, [4]), (109, [1, 5]), (110, [6]), (111, [7]), (112, [8, 7]), (113, [7, 9])] : List (Nat × List Nat)).map (·.1), d < F_.tmps.size := by rw [← hF_]; simp
        have HF_ := Lib.hid hF_; clear hF_
        refine wp_flow_tabG true hW_19 11 [(103, []), (104, [0]), (105, []), (106, [2]), (107, [3]), (108, [4]), (109, [1, 5]), (110, [6]), (111, [7]), (112, [8, 7]), (113, [7, 9])] [SC (.pointer (some ⟨g8, 0, none⟩)), SC (.int .i64 p), SC (.pointer (some ⟨b, 0, none⟩)), SC (.pointer (some ⟨b, 0, none⟩)), SC (.pointer (some ⟨b, 4, none⟩)), SC (.int .i64 S1.del), SC (.bool true), SC (.bool true), SC (.bool true), SC (.bool false), SC (.bool false)] [false, false, false, false, false, false, false, false, false, false, false] (by kernel_rfl) (by kernel_rfl) (by kernel_rfl) (by kernel_rfl) (by kernel_rfl) hsz_ ⟨SC.mono _, SC.mono _, SC.mono _, SC.mono _, SC.mono _, SC.mono _, SC.mono _, SC.mono _, SC.mono _, SC.mono _, SC.mono _, trivial⟩ ?_ ?_
        ·intro kq hkq a wx hB hp hs
         have hBo : Below w8.heap.size w8 wx := dB hW_19 hB
         have hcase : kq = 0 ∨ kq = 1 ∨ kq = 2 ∨ kq = 3 ∨ kq = 4 ∨ kq = 5 ∨ kq = 6 ∨ kq = 7 ∨ kq = 8 ∨ kq = 9 ∨ kq = 10 := by omega
         rcases hcase with rfl | rfl | rfl | rfl | rfl | rfl | rfl | rfl | rfl | rfl | rfl
         ·clear hp
          exact ⟨_, rfl, .inl ⟨wanted_none rfl, fa_link_packet_0 rfl ((hs 8 rfl).trans ev8)⟩⟩
         ·obtain ⟨k1, -⟩ := hp
          exact ⟨_, rfl, .inl ⟨wanted_none rfl, ld_int rfl k1 (hx88.below hBo) rfl⟩⟩
         ·clear hp
          exact ⟨_, rfl, .inl ⟨wanted_none rfl, op_mv (s := SC _) rfl ((hs 0 rfl).trans ev0)⟩⟩
         ·obtain ⟨k1, -⟩ := hp
          exact ⟨_, rfl, .inl ⟨wanted_none rfl, op_nil rfl k1⟩⟩
         ·obtain ⟨k1, -⟩ := hp
          exact ⟨_, rfl, .inl ⟨wanted_none rfl, fa_link_End_4 rfl k1⟩⟩
         ·obtain ⟨k1, -⟩ := hp
          exact ⟨_, rfl, .inl ⟨wanted_none rfl, ld_int rfl k1 (hx8_.below hBo) rfl⟩⟩
         ·obtain ⟨k1, k2, -⟩ := hp
          have e0 : a.eval (.tmp 104) = .int .i64 p := k1
          simp [Act.eval] at e0
          have e1 : a.eval (.tmp 108) = .int .i64 S1.del := k2
          simp [Act.eval] at e1
          exact ⟨_, rfl, .inl ⟨wanted_none rfl, Does.val (by simp [execOp, Act.eval, e0, e1, go_sem, hpd]) rfl⟩⟩
         ·obtain ⟨k1, -⟩ := hp
          exact ⟨_, rfl, .inl ⟨wanted_none rfl, op_mv (s := SC _) rfl k1⟩⟩
         ·obtain ⟨k1, -⟩ := hp
          have hgd : a.eval (.tmp 110) = .bool true := k1
          exact ⟨_, rfl, .inl ⟨(wanted_of rfl rfl hgd).trans rfl, op_mv (s := SC _) rfl ((hs 12 rfl).trans ev12)⟩⟩
         ·obtain ⟨k1, k2, -⟩ := hp
          have hgd : a.eval (.tmp 110) = .bool true := k2
          have e0 : a.eval (.tmp 111) = .bool true := k1
          simp [Act.eval] at e0
          exact ⟨_, rfl, .inl ⟨(wanted_of rfl rfl hgd).trans rfl, Does.val (by simp [execOp, Act.eval, e0, go_sem]) rfl⟩⟩
         ·obtain ⟨k1, k2, -⟩ := hp
          have e0 : a.eval (.tmp 110) = .bool true := k1
          simp [Act.eval] at e0
          have e1 : a.eval (.tmp 112) = .bool false := k2
          simp [Act.eval] at e1
          exact ⟨_, rfl, .inl ⟨wanted_none rfl, Does.val (by simp [execOp, Act.eval, e0, e1, go_sem]) rfl⟩⟩
        ·intro val wx hB hsp hdis
         have hBo : Below w8.heap.size w8 wx := dB hW_19 hB
         have e10 : val 10 = .bool false := hsp 10 (by omega)
         rw [← HF_.out]
         change wpList _ _ _ [] _ _
         simp only [puts_consT, puts_nilm, vals, List.map_cons, List.map_nil, Nat.zero_add, Nat.reduceAdd, e10, List.setIfInBounds_toArray, List.set_cons_succ, List.set_cons_zero]
         clear hsp hdis HF_ hsz_ hB hW_19 e10 ev0 ev8 ev12
         obtain ⟨w9, rfl⟩ : ∃ w9 : World, w9 = wx := ⟨_, rfl⟩
         have k3 := Lib.hid (Blw k5.out hBo)
         have hx9 := hx8_.below hBo
         have hx89 := hx88.below hBo
         clear hBo hx8_ hx88 hpd k5
         have HR11 := Lib.hid (in_deliver2 (p := p) (s := s) ((TT.rel own).trans HT7.out ⟨Tc.of k3.out, KB.of k3.out⟩) (HE7.out.below k3.out) (K.put_no HF.out) hd3 hd4 (by show S1.cnt ≤ _; omega))
         go_wp2_with fail
         refine HR11.out.mono ?_
         rintro e w12 ⟨v12, rfl, HR12⟩
         go_wp2
         go_ret2
         rw [HIN2.out]
         exact HR12
     ·have hpd := decide_eq_false hpp
      obtain ⟨v0, g0, HLK0⟩ := look_any hp64 HM7.out
      have HLK := Lib.hid (fun (wx : World) (hB : Below w7.heap.size w7 wx) => HLK0 wx (map_tc HM7.out (Tc.of hB) (R := []) (by simp)))
      have HF := Lib.hid (show ¬ (S1.del < p ∧ S1.held p = none) from fun h => hpp h.1)
      clear hh HLK0
      go_wp2_with fail
      go_upto_region 18 with fail
      generalize hW_18 : w7.drew = W_18
      refine gen_act ?_
      intro F_ hF_
      have ev0 : F_.eval (.tmp 0) = .pointer (some ⟨b, 0, none⟩) := by rw [← hF_]; rfl
      have ev8 : F_.eval (.tmp 8) = .pointer (some ⟨g8, 0, none⟩) := by rw [← hF_]; rfl
      have hsz_ : ∀ d ∈ ([(94, []), (95, [0]), (96, [1]), (97, [2]), (98, []), (99, [4]), (100, [3, 5]), (93, [6]), (101, [7]), (102, [7]), (11, [8]), (12, [9])] : List (Nat × List Nat)).map (·.1), d < F_.tmps.size := by rw [← hF_]; simp
      have HF_ := Lib.hid hF_; clear hF_
      refine wp_flow_tab true hW_18 12 [(94, []), (95, [0]), (96, [1]), (97, [2]), (98, []), (99, [4]), (100, [3, 5]), (93, [6]), (101, [7]), (102, [7]), (11, [8]), (12, [9])] [SC (.pointer (some ⟨b, 0, none⟩)), SC (.pointer (some ⟨b, 0, none⟩)), SC (.pointer (some ⟨b, 5, none⟩)), SC (.map (some bm7)), SC (.pointer (some ⟨g8, 0, none⟩)), SC (.int .i64 p), SC (.tuple #[v0, .bool g0]), SC (.tuple #[v0, .bool g0]), SC (v0), SC (.bool g0), SC (v0), SC (.bool g0)] [false, false, false, false, false, false, false, false, false, false, false, false] (by kernel_rfl) (by kernel_rfl) (by kernel_rfl) (by kernel_rfl) (by kernel_rfl) hsz_ ⟨SC.mono _, SC.mono _, SC.mono _, SC.mono _, SC.mono _, SC.mono _, SC.mono _, SC.mono _, SC.mono _, SC.mono _, SC.mono _, SC.mono _, trivial⟩ ?_ ?_
      ·intro kq hkq a wx hB hp hs
       have hBo : Below w7.heap.size w7 wx := dB hW_18 hB
       have hcase : kq = 0 ∨ kq = 1 ∨ kq = 2 ∨ kq = 3 ∨ kq = 4 ∨ kq = 5 ∨ kq = 6 ∨ kq = 7 ∨ kq = 8 ∨ kq = 9 ∨ kq = 10 ∨ kq = 11 := by omega
       rcases hcase with rfl | rfl | rfl | rfl | rfl | rfl | rfl | rfl | rfl | rfl | rfl | rfl
       ·clear hp
        exact ⟨_, rfl, op_mv (s := SC _) rfl ((hs 0 rfl).trans ev0)⟩
       ·obtain ⟨k1, -⟩ := hp
        exact ⟨_, rfl, op_nil rfl k1⟩
       ·obtain ⟨k1, -⟩ := hp
        exact ⟨_, rfl, fa_link_End_5 rfl k1⟩
       ·obtain ⟨k1, -⟩ := hp
        exact ⟨_, rfl, ld_map_int___uint8 rfl k1 (hx7.below hBo) rfl⟩
       ·clear hp
        exact ⟨_, rfl, fa_link_packet_0 rfl ((hs 8 rfl).trans ev8)⟩
       ·obtain ⟨k1, -⟩ := hp
        exact ⟨_, rfl, ld_int rfl k1 (hx87.below hBo) rfl⟩
       ·obtain ⟨k1, k2, -⟩ := hp
        have e0 : a.eval (.tmp 97) = .map (some bm7) := k1
        simp [Act.eval] at e0
        have e1 : a.eval (.tmp 99) = .int .i64 p := k2
        simp [Act.eval] at e1
        exact ⟨_, rfl, Does.val (by simp [execOp, Act.eval, e0, e1, go_sem, HLK.out wx hBo]) rfl⟩
       ·obtain ⟨k1, -⟩ := hp
        exact ⟨_, rfl, op_mv (s := SC _) rfl k1⟩
       ·obtain ⟨k1, -⟩ := hp
        have e0 : a.eval (.tmp 93) = .tuple #[v0, .bool g0] := k1
        simp [Act.eval] at e0
        exact ⟨_, rfl, Does.val (by simp [execOp, Act.eval, e0, go_sem]) rfl⟩
       ·obtain ⟨k1, -⟩ := hp
        have e0 : a.eval (.tmp 93) = .tuple #[v0, .bool g0] := k1
        simp [Act.eval] at e0
        exact ⟨_, rfl, Does.val (by simp [execOp, Act.eval, e0, go_sem]) rfl⟩
       ·obtain ⟨k1, -⟩ := hp
        exact ⟨_, rfl, op_as (s := SC _) rfl k1⟩
       ·obtain ⟨k1, -⟩ := hp
        exact ⟨_, rfl, op_as (s := SC _) rfl k1⟩
      ·intro val wx hB hsp hdis
       have hBo : Below w7.heap.size w7 wx := dB hW_18 hB
       have e10 : val 10 = v0 := hsp 10 (by omega)
       have e11 : val 11 = .bool g0 := hsp 11 (by omega)
       rw [← HF_.out]
       change wpList _ _ _ [] _ _
       simp only [puts_consT, puts_nilm, vals, List.map_cons, List.map_nil, Nat.zero_add, Nat.reduceAdd, e10, e11, List.setIfInBounds_toArray, List.set_cons_succ, List.set_cons_zero]
       clear hsp hdis HF_ hsz_ hB hW_18 e10 e11 ev0 ev8
       obtain ⟨w8, rfl⟩ : ∃ w8 : World, w8 = wx := ⟨_, rfl⟩
       have k5 := Lib.hid hBo
       have hx8_ := hx7.below hBo
       have hx88 := hx87.below hBo
       clear hBo hx7 hx87 HLK
       go_wp2_with fail
       go_upto_region 19 with fail
       generalize hW_19 : w8.drew = W_19
       refine gen_act ?_
       intro F_ hF_
       have ev0 : F_.eval (.tmp 0) = .pointer (some ⟨b, 0, none⟩) := by rw [← hF_]; rfl
       have ev8 : F_.eval (.tmp 8) = .pointer (some ⟨g8, 0, none⟩) := by rw [← hF_]; rfl
       have ev12 : F_.eval (.tmp 12) = .bool g0 := by rw [← hF_]; rfl
       have hsz_ : ∀ d ∈ ([(103, []), (104, [0]), (105, []), (106, [2]), (107, [3]), (108, [4]), (109, [1, 5]), (110, [6]), (111, [7]), (112, [8, 7]), (113, [7, 9])] : List (Nat × List Nat)).map (·.1), d < F_.tmps.size := by rw [← hF_]; simp
       have HF_ := Lib.hid hF_; clear hF_
       refine wp_flow_tabG true hW_19 11 [(103, []), (104, [0]), (105, []), (106, [2]), (107, [3]), (108, [4]), (109, [1, 5]), (110, [6]), (111, [7]), (112, [8, 7]), (113, [7, 9])] [SC (.pointer (some ⟨g8, 0, none⟩)), SC (.int .i64 p), SC (.pointer (some ⟨b, 0, none⟩)), SC (.pointer (some ⟨b, 0, none⟩)), SC (.pointer (some ⟨b, 4, none⟩)), SC (.int .i64 S1.del), SC (.bool false), SC (.bool false), SC undef, SC undef, SC (.bool false)] [false, false, false, false, false, false, false, false, false, false, false] (by kernel_rfl) (by kernel_rfl) (by kernel_rfl) (by kernel_rfl) (by kernel_rfl) hsz_ ⟨SC.mono _, SC.mono _, SC.mono _, SC.mono _, SC.mono _, SC.mono _, SC.mono _, SC.mono _, SC.mono _, SC.mono _, SC.mono _, trivial⟩ ?_ ?_
       ·intro kq hkq a wx hB hp hs
        have hBo : Below w8.heap.size w8 wx := dB hW_19 hB
        have hcase : kq = 0 ∨ kq = 1 ∨ kq = 2 ∨ kq = 3 ∨ kq = 4 ∨ kq = 5 ∨ kq = 6 ∨ kq = 7 ∨ kq = 8 ∨ kq = 9 ∨ kq = 10 := by omega
        rcases hcase with rfl | rfl | rfl | rfl | rfl | rfl | rfl | rfl | rfl | rfl | rfl
        ·clear hp
         exact ⟨_, rfl, .inl ⟨wanted_none rfl, fa_link_packet_0 rfl ((hs 8 rfl).trans ev8)⟩⟩
        ·obtain ⟨k1, -⟩ := hp
         exact ⟨_, rfl, .inl ⟨wanted_none rfl, ld_int rfl k1 (hx88.below hBo) rfl⟩⟩
        ·clear hp
         exact ⟨_, rfl, .inl ⟨wanted_none rfl, op_mv (s := SC _) rfl ((hs 0 rfl).trans ev0)⟩⟩
        ·obtain ⟨k1, -⟩ := hp
         exact ⟨_, rfl, .inl ⟨wanted_none rfl, op_nil rfl k1⟩⟩
        ·obtain ⟨k1, -⟩ := hp
         exact ⟨_, rfl, .inl ⟨wanted_none rfl, fa_link_End_4 rfl k1⟩⟩
        ·obtain ⟨k1, -⟩ := hp
         exact ⟨_, rfl, .inl ⟨wanted_none rfl, ld_int rfl k1 (hx8_.below hBo) rfl⟩⟩
        ·obtain ⟨k1, k2, -⟩ := hp
         have e0 : a.eval (.tmp 104) = .int .i64 p := k1
         simp [Act.eval] at e0
         have e1 : a.eval (.tmp 108) = .int .i64 S1.del := k2
         simp [Act.eval] at e1
         exact ⟨_, rfl, .inl ⟨wanted_none rfl, Does.val (by simp [execOp, Act.eval, e0, e1, go_sem, hpd]) rfl⟩⟩
        ·obtain ⟨k1, -⟩ := hp
         exact ⟨_, rfl, .inl ⟨wanted_none rfl, op_mv (s := SC _) rfl k1⟩⟩
        ·obtain ⟨k1, -⟩ := hp
         have hgd : a.eval (.tmp 110) = .bool false := k1
         exact ⟨_, rfl, .inr ⟨(wanted_of rfl rfl hgd).trans rfl, rfl, rfl⟩⟩
        ·obtain ⟨k1, k2, -⟩ := hp
         have hgd : a.eval (.tmp 110) = .bool false := k2
         exact ⟨_, rfl, .inr ⟨(wanted_of rfl rfl hgd).trans rfl, rfl, rfl⟩⟩
        ·obtain ⟨k1, k2, -⟩ := hp
         have e0 : a.eval (.tmp 110) = .bool false := k1
         simp [Act.eval] at e0
         have e1 : a.eval (.tmp 112) = undef := k2
         simp [Act.eval] at e1
         exact ⟨_, rfl, .inl ⟨wanted_none rfl, Does.val (by simp [execOp, Act.eval, e0, e1, go_sem]) rfl⟩⟩
       ·intro val wx hB hsp hdis
        have hBo : Below w8.heap.size w8 wx := dB hW_19 hB
        have e10 : val 10 = .bool false := hsp 10 (by omega)
        rw [← HF_.out]
        change wpList _ _ _ [] _ _
        simp only [puts_consT, puts_nilm, vals, List.map_cons, List.map_nil, Nat.zero_add, Nat.reduceAdd, e10, List.setIfInBounds_toArray, List.set_cons_succ, List.set_cons_zero]
        clear hsp hdis HF_ hsz_ hB hW_19 e10 ev0 ev8 ev12
        obtain ⟨w9, rfl⟩ : ∃ w9 : World, w9 = wx := ⟨_, rfl⟩
        have k3 := Lib.hid (Blw k5.out hBo)
        have hx9 := hx8_.below hBo
        have hx89 := hx88.below hBo
        clear hBo hx8_ hx88 hpd k5
        have HR11 := Lib.hid (in_deliver2 (p := p) (s := s) ((TT.rel own).trans HT7.out ⟨Tc.of k3.out, KB.of k3.out⟩) (HE7.out.below k3.out) (K.put_no HF.out) hd3 hd4 (by show S1.cnt ≤ _; omega))
        go_wp2_with fail
        refine HR11.out.mono ?_
        rintro e w12 ⟨v12, rfl, HR12⟩
        go_wp2
        go_ret2
        rw [HIN2.out]
        exact HR12
end Go.Proofs.Ytgdibcgphjmofaa
