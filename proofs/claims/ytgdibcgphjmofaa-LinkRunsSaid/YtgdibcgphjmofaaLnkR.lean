/-
 THE WALK of slices.Delete from the beginning of a row of slices of bytes.
-/
import Derived.Test.YtgdibcgphjmofaaLnkO
import Derived.Test.YtgdibcgphjmofaaLnkS
import Derived.Maps.AppendAt
namespace Go.Proofs.Ytgdibcgphjmofaa
set_option maxHeartbeats 1000000
open Go.RowKit
open Go.Maps
set_option linter.unusedVariables false
theorem info_b : (Try.prog.info? 33).map (fun i => (i.zero, i.size, i.bytes)) = some (some (.slice none 0 0), 1, 24) := by kernel_rfl
theorem dT {R : List Nat} {w W wx : World} (hW : w.drew = W) (h : TT R W wx) : TT R w wx := by subst hW; exact h.drew
set_option maxRecDepth 100000 in
theorem clone_nil0 (c : Nat) (w : World) : Calls Try.prog 32 #[.slice none 0 c] w (RB_ [] w) := by
 have hq := Lib.run_eql_slice_nil (P := Try.prog) w 33 5 none 0 c 0 0 Try.underlying33
 simp only [Option.isNone] at hq
 go_enter Try.func32, Try.ntmps32
 go_wp2
 go_ret
 exact ⟨_, rfl, World.ownsRow_nil _ _ _ _, Below.refl _ _⟩
set_option maxRecDepth 100000 in
theorem clone_some (ad : Addr) (c B : Nat) (l : List UInt8) (w : World) (hr : Rd w B (some ad) (W.bc l)) (hB : B ≤ w.heap.size) (hm : c ≤ maxLen) (hl : l.length ≤ 140737488355328) :
  Calls Try.prog 32 #[.slice (some ad) l.length c] w (RB_ l w) := by
 unfold maxLen at hm
 obtain ⟨i0, hi, hz0, hz1, hz2⟩ := info_parts info_u8
 have HR := Lib.hid (hr.alloc (w := w) (o := .cells #[] 5) hB); clear hr
 have hq := Lib.run_eql_slice_nil (P := Try.prog) w 33 5 (some ad) l.length c 0 0 Try.underlying33
 simp only [Option.isNone] at hq
 generalize hN : l.length = N at *
 have HN := Lib.hid hN; clear hN
 go_enter Try.func32, Try.ntmps32
 go_wp2_with (at_builtin; refine wpList_append_rd rfl (.tmp 5) (.tmp 6) _ rfl w.heap.size 5 i0 _ 1 Try.underlying33 hi hz0 hz1 hz2 rfl _ _ _ rfl (World.ownsRow_made w #[] 0 (Nat.le_refl _) (by decide) rfl) (some ad) N c B (W.bc l) rfl HR.out (by rw [W.bc_length]; exact HN.out) (W.bc_oneCell l) (by unfold maxLen; omega) (by omega) (by simp) ?_)
 intro v' w2 hown hgrow
 have hB : Below w.heap.size w w2 := ((Below.refl _ _).alloc (Nat.le_refl _) _).grown hgrow (by simp) (fun k hk => by simp [Value.ownBlock] at hk; omega)
 have HOWN := Lib.hid hown; have HB := Lib.hid hB
 clear hown hB hgrow
 go_wp2
 go_ret
 refine ⟨_, rfl, ?_, HB.out⟩
 have h : w2.ownsRow w.heap.size 5 1 v' N (W.bc l) := by simpa using HOWN.out
 rw [HN.out]
 exact h
/-- slices.Clone of what reads as bytes. -/
theorem clone_bv {w : World} {v : Value} {l : List UInt8} (h : BV w v l) (hl : l.length ≤ 140737488355328) : Calls Try.prog 32 #[v] w (RBV l w) := by
 obtain ⟨A, c, rfl, h1, h2, h3, _⟩ := h
 cases A with
 | some ad => exact (clone_some ad c _ l w h3 (Nat.le_refl _) h2 hl).mono fun _ _ h => h.bv
 | none =>
  have h0 : l = [] := by
   rcases Nat.eq_zero_or_pos l.length with h | h
   ·exact List.eq_nil_of_length_eq_zero h
   ·obtain ⟨b, o, e1, _⟩ := h3 (by simpa using h)
    cases e1
  subst h0
  exact (clone_nil0 c w).mono fun _ _ h => h.bv
/-- A row of one slice of bytes. -/
def SOne (B : Nat) (l : List UInt8) : Sp := fun w v => ∃ g u, v = .slice (some ⟨g, 0, none⟩) 1 1 ∧ B ≤ g ∧ Bx w g 33 [u] ∧ BV w u l
theorem SOne.mono (B : Nat) (l : List UInt8) : Mono (SOne B l) := fun _ _ _ ⟨g, u, h1, h2, h3, h4⟩ hb => ⟨g, u, h1, h2, h3.below hb, h4.below hb⟩
theorem SOne.monoT {R : List Nat} {B : Nat} {l : List UInt8} (hR : ∀ k ∈ R, k < B) : MonoT (TT R) (SOne B l) := fun _ _ _ ⟨g, u, h1, h2, h3, h4⟩ hb => ⟨g, u, h1, h2, h3.tc hb.1 (fun e => by have := hR g e; omega), h4.kb hb.2⟩
/-- A row of messages with one more. -/
def SApp (R : List Nat) (B N : Nat) (ls : List (List UInt8)) (l : List UInt8) : Sp := fun w v => ∃ us, w.ownsRow 0 33 1 v (N + 1) us ∧ Vs w us (ls ++ [l]) ∧ ∀ k, v.ownBlock = some k → k ∈ R ∨ B ≤ k
theorem SApp.mono (R : List Nat) (B N : Nat) (ls : List (List UInt8)) (l : List UInt8) : Mono (SApp R B N ls l) := fun _ _ _ ⟨us, h1, h2, h3⟩ hb => ⟨us, own_below h1 hb, h2.kb (.of hb), h3⟩
section
variable {o : Oper} {a : Act} {wx : World} {x y : Operand}
theorem op_one {S B : Nat} {l : List UInt8} (ho : o.op = .buildSlice S 1 #[(0, x)]) (hx : SY l wx (a.eval x)) (hB : B ≤ wx.heap.size)
  (hr : ∀ A n c, (Instr.buildSlice S 1 #[(0, .slice A n c)]).run Try.prog wx = .ok (.slice (some ⟨wx.heap.size, 0, none⟩) 1 1) (wx.alloc (.cells #[.slice A n c] 33)) := by intro _ _ _; simp [go_sem]) : Does Try.prog o (SOne B l) false a wx := by
 obtain ⟨A, c, e1, r⟩ := hx
 have h : ∀ ρ : Operand → Value, ρ x = .slice A l.length c → (execOp ρ o).run Try.prog wx = .ok (.value (.slice (some ⟨wx.heap.size, 0, none⟩) 1 1)) (wx.alloc (.cells #[.slice A l.length c] 33)) := by
  intro ρ e1; simp [execOp, ho, e1, hr, Result.andThen]
 exact .inl ⟨_, _, h _ e1, (Below.refl _ _).alloc (Nat.le_refl _) _, ⟨_, _, rfl, hB, Bx.at_ rfl, BV.alloc ⟨A, c, rfl, r⟩ _⟩, fun h => by cases h⟩
/-- append of a message onto a row of messages. -/
theorem run_app {w : World} {ty : TypeId} {rv : Value} {N g base : Nat} {vs : List Value} {u : Value} {ls : List (List UInt8)} {l : List UInt8} (hbase : base ≤ w.heap.size) (hown : w.ownsRow base 33 1 rv N vs) (hv : Vs w vs ls) (hg : Bx w g 33 [u]) (hu : BV w u l) (hN : N ≤ 1000000000) :
  ∃ v' w', (Builtin.append_ #[28, 28] ty #[rv, .slice (some ⟨g, 0, none⟩) 1 1]).run Try.prog w = .ok v' w' ∧ w'.ownsRow base 33 1 v' (N + 1) (vs ++ [u]) ∧ w.grownBy w' rv.ownBlock ∧ KB w w' ∧ Vs w' (vs ++ [u]) (ls ++ [l]) ∧ (∀ k, v'.ownBlock = some k → rv.ownBlock = some k ∨ w.heap.size ≤ k) := by
 obtain ⟨i0, hi, hz0, hz1, hz2⟩ := info_parts info_b
 have hcell : ∀ j x, ([u] : List Value)[j]? = some x → w.cell? ((⟨g, 0, none⟩ : Addr).add j) = some x := fun j x hx => by
  rw [Addr.add_lit, Nat.zero_add]; exact hg.cell hx
 obtain ⟨v', w', r1, r2, r3, r4⟩ := run_append_own_at w base 28 ty 33 i0 _ 1 24 Try.underlying28 hi hz0 hz1 hz2 rfl (by decide) rv N vs hown ⟨g, 0, none⟩ 1 1 [u] rfl hcell (fun x hx => by simp at hx; subst hx; exact hu.one) (by unfold maxLen; omega) (by omega) hbase
 have hgl := hg.lt
 have hkb : KB w w' := (KB.refl w).grown r3 (fun k hk cs fr e => by
  rcases hown.2 with ⟨rfl, _⟩ | ⟨g1, cap, cur, rfl, _, h4, _⟩
  ·simp [Value.ownBlock] at hk
  ·simp [Value.ownBlock] at hk
   subst hk
   rw [h4] at e
   injection e with e
   injection e with _ e _
   exact absurd e (by decide))
 refine ⟨v', w', r1, r2, r3, hkb, (hv.kb hkb).snoc (hu.kb hkb), fun k hk => ?_⟩
 rcases r4.2 with h | h
 ·rw [h] at hk; exact .inl hk
 ·rw [h] at hk; injection hk with hk; exact .inr (by omega)
theorem wpList_app {ops : Array Oper} {rest : List Oper} {Q : Exit → Act → World → Prop} {w : World} {rv : Value} {N g base : Nat} {vs : List Value} {u : Value} {ls : List (List UInt8)} {l : List UInt8} (hgd : o.guard = none) (x y : Operand) (ho : o.op = .call { callee := .builtin .append, args := #[x, y], argTypes := #[28, 28] })
  (ex : a.eval x = rv) (ey : a.eval y = .slice (some ⟨g, 0, none⟩) 1 1) (hbase : base ≤ w.heap.size) (hown : w.ownsRow base 33 1 rv N vs) (hv : Vs w vs ls) (hg : Bx w g 33 [u]) (hu : BV w u l) (hN : N ≤ 1000000000)
  (h : ∀ v' w', w'.ownsRow base 33 1 v' (N + 1) (vs ++ [u]) → w.grownBy w' rv.ownBlock → KB w w' → Vs w' (vs ++ [u]) (ls ++ [l]) → wpList Try.prog ops Q rest (a.put o.dst v') w') : wpList Try.prog ops Q (o :: rest) a w := by
 refine wpList_plain hgd fun K hK => ?_
 obtain ⟨v', w', r1, r2, r3, r4, r5, r6⟩ := run_app (ty := o.type) hbase hown hv hg hu hN
 unfold Oper.wp execOp
 simp only [ho, resolve, invoke, builtin, Sem.run_bind, Sem.run_pure, Result.andThen_ok, List.map_toArray, List.map_cons, List.map_nil, ex, ey, r1]
 exact hK _ _ (h v' w' r2 r3 r4 r5)
theorem op_app {R : List Nat} {N g : Nat} {rv u : Value} {vs : List Value} {ls : List (List UInt8)} {l : List UInt8} (ho : o.op = .call { callee := .builtin .append, args := #[x, y], argTypes := #[28, 28] })
  (ex : a.eval x = rv) (ey : a.eval y = .slice (some ⟨g, 0, none⟩) 1 1) (hown : wx.ownsRow 0 33 1 rv N vs) (hv : Vs wx vs ls) (hg : Bx wx g 33 [u]) (hu : BV wx u l) (hN : N ≤ 1000000000) (hR : ∀ k, rv.ownBlock = some k → k ∈ R) {B : Nat} (hB : B ≤ wx.heap.size) :
  DoesT (TT R) Try.prog o (SApp R B N ls l) false a wx := by
 obtain ⟨v', w', r1, r2, r3, r4, r5, r6⟩ := run_app (ty := o.type) (Nat.zero_le _) hown hv hg hu hN
 have h : ∀ ρ : Operand → Value, ρ x = rv → ρ y = .slice (some ⟨g, 0, none⟩) 1 1 → (execOp ρ o).run Try.prog wx = .ok (.value v') w' := by
  intro ρ e1 e2
  unfold execOp
  simp only [ho, resolve, invoke, builtin, Sem.run_bind, Sem.run_pure, Result.andThen_ok, List.map_toArray, List.map_cons, List.map_nil, e1, e2, r1]
 exact .inl ⟨v', w', h _ ex ey, ⟨(Tc.refl R wx).grown r3 (fun k hk => .inl (hR k hk)), r4⟩, ⟨_, r2, r5, fun k hk => by rcases r6 k hk with h | h; exact .inl (hR k h); exact .inr (by omega)⟩, fun h => by cases h⟩
end
/-- Blocks of an end are different. -/
theorem end_ne {w : World} {b bm N : Nat} {cs : List Value} {rv : Value} {vs : List Value} {D : DataW Value} {n : Nat} (hx : Bx w b 65 cs) (hown : w.ownsRow 0 33 1 rv N vs) (hm : w.ownsMap Try.prog 3 RV bm n D) : b ≠ bm ∧ (∀ k, rv.ownBlock = some k → b ≠ k ∧ bm ≠ k) := by
 obtain ⟨es, ck, hm, _⟩ := hm
 refine ⟨fun e => ?_, fun k hk => ?_⟩
 ·subst e
  unfold Bx at hx
  rw [hm] at hx
  cases hx
 ·rcases hown.2 with ⟨rfl, _⟩ | ⟨g1, cap, cur, rfl, _, h4, _⟩
  ·simp [Value.ownBlock] at hk
  ·simp [Value.ownBlock] at hk
   subst hk
   refine ⟨fun e => ?_, fun e => ?_⟩
   ·subst e
    unfold Bx at hx
    rw [hx] at h4
    injection h4 with h4
    injection h4 with _ e _
    exact absurd e (by decide)
   ·subst e
    rw [hm] at h4
    cases h4
theorem map_tc {w w' : World} {bm n : Nat} {D : DataW Value} {R : List Nat} (h : w.ownsMap Try.prog 3 RV bm n D) (t : Tc R w w') (hb : bm ∉ R) : w'.ownsMap Try.prog 3 RV bm n D := by
 have hl := h.lt
 obtain ⟨es, ck, h1, h2⟩ := h
 exact ⟨es, ck, (t.block bm hl hb).trans h1, h2⟩
theorem map_set {w : World} {bm n : Nat} {D : DataW Value} (h : w.ownsMap Try.prog 3 RV bm n D) {p : Addr} (hp : bm ≠ p.block) (u : Value) : (w.setCell p u).ownsMap Try.prog 3 RV bm n D := h.setCell hp u
theorem row_set {w : World} {base e size n : Nat} {v : Value} {xs : List Value} (h : w.ownsRow base e size v n xs) {p : Addr} (hp : ∀ k, v.ownBlock = some k → k ≠ p.block) (u : Value) : (w.setCell p u).ownsRow base e size v n xs := by
 refine ⟨h.1, ?_⟩
 rcases h.2 with h1 | ⟨g, cap, cur, rfl, hb, hg, r⟩
 ·exact .inl h1
 ·exact .inr ⟨g, cap, cur, rfl, hb, (Below.heap_setCell w p u g (hp g rfl)).trans hg, r⟩
theorem hv2 {w w' : World} {us : List Value} {ls : List (List UInt8)} (k : KB w w') (h : Vs w us ls) : Vs w' us ls := h.kb k
theorem send_no (b : Nat) (own : List Nat) (S : K.E) (A : Option Addr) (n c : Nat) (w : World) (h : EndAt w b own S) (hn : 65536 < n ∨ 1000 ≤ S.wait.length) : Calls Try.prog 11 #[.pointer (some ⟨b, 0, none⟩), .slice A n c] w fun e w' => e = .returned (.int .i64 4) ∧ w = w' := by
 obtain ⟨rv, vs, bm, D, hx, hown, -⟩ := h
 obtain ⟨A0, c0, rfl, -⟩ := own_form hown
 obtain ⟨c0, c1, c2, c3, c4, c5, c6, c7, z, l⟩ := hx.f8
 clear hown hx
 generalize S.wait.length = N at *
 by_cases h1 : 65536 < n
 ·have hd := decide_eq_true (show (65536 : Int) < (n : Int) by omega)
  clear hn h1
  go_enter Try.func11, Try.ntmps11
  go_wp2
  go_ret
  exact ⟨rfl, rfl⟩
 ·have hd := decide_eq_false (show ¬ (65536 : Int) < (n : Int) by omega)
  have hd2 := decide_eq_true (show (1000 : Int) ≤ (N : Int) by omega)
  clear hn h1
  go_enter Try.func11, Try.ntmps11
  go_wp2
  go_ret
  exact ⟨rfl, rfl⟩
def RSend (b : Nat) (own : List Nat) (S : K.E) (w : World) (e : Ending) (w' : World) : Prop := e = .returned (.int .i64 0) ∧ EndTo b own S w w'
set_option maxRecDepth 100000 in
theorem send_yes (b : Nat) (own : List Nat) (S : K.E) (x : Value) (l : List UInt8) (w : World) (h : EndAt w b own S) (hbv : BV w x l) (h1 : l.length ≤ 65536) (h2 : S.wait.length < 1000) :
  Calls Try.prog 11 #[.pointer (some ⟨b, 0, none⟩), x] w (RSend b own { S with wait := S.wait ++ [l] } w) := by
 obtain ⟨rv, vs, bm, D, hx, hown, hvs, hmap, hheld, rfl⟩ := h
 obtain ⟨N, hN⟩ : ∃ N, N = S.wait.length := ⟨_, rfl⟩
 rw [← hN] at hown h2
 have HWN := Lib.hid hN; clear hN
 obtain ⟨hne, hnr⟩ := end_ne hx hown hmap
 obtain ⟨R, hR⟩ : ∃ R, R = rv.ownBlock.toList := ⟨_, rfl⟩
 have HR := Lib.hid (show ∀ k, rv.ownBlock = some k → k ∈ R from fun k hk => by rw [hR, hk]; simp)
 have HRb := Lib.hid (show b ∉ R from fun e => by rw [hR] at e; simp at e; exact (hnr b e).1 rfl)
 have HRm := Lib.hid (show bm ∉ R from fun e => by rw [hR] at e; simp at e; exact (hnr bm e).2 rfl)
 have HL2 := Lib.hid (show ∀ k ∈ R, k < w.heap.size from fun k hk => by rw [hR] at hk; simp at hk; exact (hown.lt k hk).2)
 have HRT := Lib.hid (show ∀ k ∈ R, rv.ownBlock = some k from fun k hk => by rw [hR] at hk; simpa using hk)
 have HREQ := Lib.hid hR
 have HC := Lib.hid (show ∀ wx, TT R w wx → Calls Try.prog 32 #[x] wx (RBV l wx) from fun wx t => clone_bv (hbv.kb t.2) (by omega))
 obtain ⟨A, c, rfl, -⟩ := hbv
 obtain ⟨A0, k0, rfl, -⟩ := own_form hown
 have HO := Lib.hid hown; have HV := Lib.hid hvs; have HM := Lib.hid hmap; have HH := Lib.hid hheld; have HNR := Lib.hid hnr
 have hd := decide_eq_false (show ¬ (65536 : Int) < (l.length : Int) by omega)
 have hd2 := decide_eq_false (show ¬ (1000 : Int) ≤ (N : Int) by omega)
 clear hown hvs hmap hheld hnr hR
 obtain ⟨n, hn⟩ : ∃ n, n = l.length := ⟨_, rfl⟩
 rw [← hn] at HC hd h1 ⊢
 have HLN := Lib.hid hn
 clear hn
 obtain ⟨c0, c1, c2, c3, c4, c5, c6, c7, z, l0⟩ := hx.f8
 go_enter Try.func11, Try.ntmps11
 go_wp2_with fail
 clear c0 c1 c2 c3 c4 c5 c6 c7 z
 go_upto_region 3 with fail
 generalize hW_3 : w.drew = W_3
 refine gen_act ?_
 intro F_ hF_
 have ev0 : F_.eval (.tmp 0) = .pointer (some ⟨b, 0, none⟩) := by rw [← hF_]; rfl
 have ev1 : F_.eval (.tmp 1) = .slice A n c := by rw [← hF_]; rfl
 have hsz_ : ∀ d ∈ ([(16, []), (17, []), (18, [1]), (19, [2]), (20, [3]), (21, []), (22, [5]), (23, [6]), (24, [4, 7]), (25, [0]), (26, [9])] : List (Nat × List Nat)).map (·.1), d < F_.tmps.size := by rw [← hF_]; simp
 have HF_ := Lib.hid hF_; clear hF_
 refine wp_flow_tabGT (T := TT R) (TT.rel _) true hW_3 11 [(16, []), (17, []), (18, [1]), (19, [2]), (20, [3]), (21, []), (22, [5]), (23, [6]), (24, [4, 7]), (25, [0]), (26, [9])] [SC (.pointer (some ⟨b, 0, none⟩)), SC (.pointer (some ⟨b, 0, none⟩)), SC (.pointer (some ⟨b, 0, none⟩)), SC (.pointer (some ⟨b, 2, none⟩)), SC (.slice A0 N k0), SC (.slice A n c), SY l, SOne w.heap.size l, SApp R w.heap.size N S.wait l, SC (.pointer (some ⟨b, 0, none⟩)), SC (.pointer (some ⟨b, 2, none⟩))] [false, false, false, false, false, false, false, false, false, false, false] (by kernel_rfl) (by kernel_rfl) (by kernel_rfl) (by kernel_rfl) (by kernel_rfl) hsz_ 8 ⟨SC.mono _, SC.mono _, SC.mono _, SC.mono _, SC.mono _, SC.mono _, SY.mono _, SOne.mono _ _, SApp.mono _ _ _ _ _, SC.mono _, SC.mono _, trivial⟩ ⟨(fun _ _ _ h _ => h), (fun _ _ _ h _ => h), (fun _ _ _ h _ => h), (fun _ _ _ h _ => h), (fun _ _ _ h _ => h), (fun _ _ _ h _ => h), (fun _ _ _ h hb => BV.kb h hb.2), (SOne.monoT HL2.out), (fun _ _ _ h _ => h), (fun _ _ _ h _ => h), trivial⟩ ?_ ?_
 ·intro kq hkq a wx hB hBb hp hs
  have hBo : TT R w wx := dT hW_3 hB
  have hcase : kq = 0 ∨ kq = 1 ∨ kq = 2 ∨ kq = 3 ∨ kq = 4 ∨ kq = 5 ∨ kq = 6 ∨ kq = 7 ∨ kq = 8 ∨ kq = 9 ∨ kq = 10 := by omega
  rcases hcase with rfl | rfl | rfl | rfl | rfl | rfl | rfl | rfl | rfl | rfl | rfl
  ·clear hp
   exact ⟨_, rfl, .inr ⟨by decide, .inl ⟨wanted_none rfl, op_mv (s := SC _) rfl ((hs 0 rfl).trans ev0)⟩⟩⟩
  ·clear hp
   exact ⟨_, rfl, .inr ⟨by decide, .inl ⟨wanted_none rfl, op_mv (s := SC _) rfl ((hs 0 rfl).trans ev0)⟩⟩⟩
  ·obtain ⟨k1, -⟩ := hp
   exact ⟨_, rfl, .inr ⟨by decide, .inl ⟨wanted_none rfl, op_nil rfl k1⟩⟩⟩
  ·obtain ⟨k1, -⟩ := hp
   exact ⟨_, rfl, .inr ⟨by decide, .inl ⟨wanted_none rfl, fa_link_End_2 rfl k1⟩⟩⟩
  ·obtain ⟨k1, -⟩ := hp
   exact ⟨_, rfl, .inr ⟨by decide, .inl ⟨wanted_none rfl, ld_____uint8 rfl k1 (hx.tc hBo.1 HRb.out) rfl⟩⟩⟩
  ·clear hp
   exact ⟨_, rfl, .inr ⟨by decide, .inl ⟨wanted_none rfl, op_mv (s := SC _) rfl ((hs 1 rfl).trans ev1)⟩⟩⟩
  ·obtain ⟨k1, -⟩ := hp
   exact ⟨_, rfl, .inr ⟨by decide, .inl ⟨wanted_none rfl, Does.ry (f := 32) (call1 rfl (fun _ => by simp [go_sem]) k1) (HC.out wx hBo)⟩⟩⟩
  ·obtain ⟨k1, -⟩ := hp
   exact ⟨_, rfl, .inr ⟨by decide, .inl ⟨wanted_none rfl, op_one rfl k1 hBo.1.size⟩⟩⟩
  ·obtain ⟨k1, k2, -⟩ := hp
   obtain ⟨gr, vr, er, hgr, hr, hv⟩ := k2
   have hBk : Below w.heap.size w wx := dB hW_3 (hBb rfl)
   exact ⟨_, rfl, .inl ⟨rfl, .inl ⟨wanted_none rfl, op_app rfl k1 er (own_below HO.out hBk) (HV.out.kb (.of hBk)) hr hv (by omega) HR.out hBk.size⟩⟩⟩
  ·obtain ⟨k1, -⟩ := hp
   exact ⟨_, rfl, .inr ⟨by decide, .inl ⟨wanted_none rfl, op_nil rfl k1⟩⟩⟩
  ·obtain ⟨k1, -⟩ := hp
   exact ⟨_, rfl, .inr ⟨by decide, .inl ⟨wanted_none rfl, fa_link_End_2 rfl k1⟩⟩⟩
 ·intro val wx hB hsp hdis
  have hBo : TT R w wx := dT hW_3 hB
  obtain ⟨u8, e8⟩ : ∃ v, val 8 = v := ⟨_, rfl⟩
  have h8 := hsp 8 (by omega)
  rw [e8] at h8
  change (SApp R w.heap.size N S.wait l) _ u8 at h8
  have e10 : val 10 = .pointer (some ⟨b, 2, none⟩) := hsp 10 (by omega)
  rw [← HF_.out]
  change wpList _ _ _ [_] _ _
  simp only [puts_consT, puts_nilm, vals, List.map_cons, List.map_nil, Nat.zero_add, Nat.reduceAdd, e8, e10, List.setIfInBounds_toArray, List.set_cons_succ, List.set_cons_zero]
  clear hsp hdis HF_ hsz_ hB hW_3 e8 e10 ev0 ev1
  obtain ⟨us, ho8, hv8, hk8⟩ := h8
  obtain ⟨A8, c8, rfl, -⟩ := own_form ho8
  have hx1 := hx.tc hBo.1 HRb.out
  have HM1 := Lib.hid (map_tc HM.out hBo.1 HRm.out)
  have HH1 := Lib.hid (HH.out.kb hBo.2)
  have HT := Lib.hid hBo
  have HO8 := Lib.hid ho8; have HV8 := Lib.hid hv8; have HK8 := Lib.hid hk8
  clear hBo ho8 hv8 hk8
  obtain ⟨c0, c1, c2, c3, c4, c5, c6, c7, z, l1⟩ := hx1.f8
  go_wp2
  go_ret
  have hkb : KB wx (wx.setCell ⟨b, 2, none⟩ (.slice A8 (N + 1) c8)) := (KB.refl _).set_ hx1 (by decide) _
  obtain ⟨hne2, hnr2⟩ := end_ne hx1 HO8.out HM1.out
  refine ⟨rfl, _, ⟨.slice A8 (N + 1) c8, us, bm, D, hx1.set_ 2 _, ?_, hv2 hkb HV8.out, map_set HM1.out (fun e => hne e.symm) _, HH1.out.kb hkb, rfl⟩, ⟨(HT.out.1.mono ?_).set_ (.inl (by simp)) _, HT.out.2.trans hkb⟩, ?_⟩
  ·have h := row_set HO8.out (p := ⟨b, 2, none⟩) (fun k hk => (hnr2 k hk).1.symm) (.slice A8 (N + 1) c8)
   simpa [HWN.out] using h
  ·intro k hk
   rw [HREQ.out] at hk
   simp only [List.mem_cons]
   exact .inr (.inr hk)
  ·intro x hx
   simp only [List.mem_cons, Option.mem_toList] at hx ⊢
   rcases hx with rfl | rfl | hx
   ·exact .inl (.inl rfl)
   ·exact .inl (.inr (.inl rfl))
   ·rcases HK8.out x hx with h | h
    ·exact .inl (.inr (.inr (HRT.out x h)))
    ·exact .inr h
end Go.Proofs.Ytgdibcgphjmofaa
namespace Go.Proofs.Ytgdibcgphjmofaa
set_option maxHeartbeats 1000000
open Go.RowKit
open Go.Maps
set_option linter.unusedVariables false
/-- Sealed bytes. -/
def K.sealed (key : Int) (l : List UInt8) : List UInt8 := l ++ K.seal8 (K.hash key l)
theorem K.pk_sum (p q : Int) (l : List UInt8) : (W.encI [p, q]).length + (W.encB l).length ≤ 36 + l.length := by
 have h1 := W.enc_le p; have h2 := W.enc_le q; have h3 := W.enc_le (([p, q].length : Nat) : Int); have h4 := W.enc_le (l.length : Int)
 simp only [W.encI, W.encB, List.length_append, List.flatMap_cons, List.flatMap_nil, List.length_nil]
 omega
theorem K.pk_len (p q : Int) (l : List UInt8) (h : l.length ≤ 65536) : (K.pk p q l).length ≤ 900000000000 := by
 have := K.pk_sum p q l
 unfold K.pk
 rw [List.length_append]
 omega
/-- What holds of an end's state. -/
structure K.ok (S : K.E) : Prop where
 w1 : 1 ≤ S.win
 w2 : S.win ≤ 16
 a1 : 0 ≤ S.acked
 a2 : S.acked ≤ 1000000000
 d1 : 0 ≤ S.del
 d2 : S.del ≤ 1000000000
 f1 : 0 ≤ S.forged
 f2 : S.forged ≤ 1000000000
 n : S.wait.length ≤ 1000
 l : ∀ x ∈ S.wait, x.length ≤ 65536
 c : S.cnt ≤ 900000000
 k : 0 ≤ S.key ∧ S.key < 18446744073709551616
/-- The first packets that Out makes; all. -/
def K.outF (S : K.E) (i : Nat) : List UInt8 := K.sealed S.key (K.pk (S.acked + (i : Int) + 1) S.del (S.wait.getD i []))
def K.outN (S : K.E) : Nat := min S.wait.length S.win.toNat
def K.outs (S : K.E) (k : Nat) : List (List UInt8) := (List.range k).map (K.outF S)
theorem K.outs_succ (S : K.E) (k : Nat) : K.outs S (k + 1) = K.outs S k ++ [K.outF S k] := by simp [K.outs, List.range_succ]
def K.out (S : K.E) : List (List UInt8) := if K.outN S = 0 ∧ S.owing = true then [K.sealed S.key (K.pk 0 S.del [])] else K.outs S (K.outN S)
/-- A row of messages of the call's own. -/
def RowV (B : Nat) (w : World) (v : Value) (ls : List (List UInt8)) : Prop := ∃ vs, w.ownsRow B 33 1 v ls.length vs ∧ Vs w vs ls
/-- What Out returns. -/
def ROut (ls : List (List UInt8)) (b : Nat) (own : List Nat) (S : K.E) (w : World) (e : Ending) (w' : World) : Prop := ∃ v, e = .returned v ∧ RowV w.heap.size w' v ls ∧ EndAt w' b own S ∧ TT own w w'
def K.cells (S : K.E) (rv : Value) (bm : Nat) : List Value := [.int .i64 S.win, .int .u64 S.key, rv, .int .i64 S.acked, .int .i64 S.del, .map (some bm), .bool S.owing, .int .i64 S.forged]
/-- A store into an end's box, but for its row and its map. -/
theorem EndAt.set_ {w : World} {b : Nat} {own : List Nat} {S : K.E} (h : EndAt w b own S) (i : Nat) (x : Value) (S' : K.E) (hc : ∀ rv bm, (K.cells S rv bm).set i x = K.cells S' rv bm) (h1 : S'.wait = S.wait) (h2 : S'.held = S.held) (h3 : S'.cnt = S.cnt) :
  EndAt (w.setCell ⟨b, i, none⟩ x) b own S' ∧ TT own w (w.setCell ⟨b, i, none⟩ x) := by
 obtain ⟨rv, vs, bm, D, hx, hown, hvs, hmap, hheld, rfl⟩ := h
 obtain ⟨hne, hnr⟩ := end_ne hx hown hmap
 have hkb : KB w (w.setCell ⟨b, i, none⟩ x) := (KB.refl w).set_ hx (by decide) _
 refine ⟨⟨rv, vs, bm, D, ?_, ?_, ?_, ?_, ?_, rfl⟩, (Tc.refl _ w).set_ (.inl (by simp)) _, hkb⟩
 ·have h4 := hx.set_ i x
  have h5 := hc rv bm
  unfold K.cells at h5
  rw [h5] at h4
  exact h4
 ·rw [h1]
  exact row_set hown (fun k hk => (hnr k hk).1.symm) _
 ·rw [h1]
  exact hvs.kb hkb
 ·rw [h3]
  exact map_set hmap (fun e => hne e.symm) _
 ·rw [h2]
  exact hheld.kb hkb
theorem RowV.set_ {B : Nat} {w : World} {v : Value} {ls : List (List UInt8)} (h : RowV B w v ls) {b i : Nat} {T : Nat} {cs : List Value} (hb : b < B) (hx : Bx w b T cs) (hT : T ≠ 5) (x : Value) : RowV B (w.setCell ⟨b, i, none⟩ x) v ls := by
 obtain ⟨vs, h1, h2⟩ := h
 exact ⟨vs, row_set h1 (fun k hk => by have := (h1.lt k hk).1; show k ≠ b; omega) _, h2.kb ((KB.refl w).set_ hx hT _)⟩
theorem out_end {b : Nat} {own : List Nat} {S : K.E} {w wx : World} {v : Value} {ls : List (List UInt8)} (h : EndAt w b own S) (hb : Below w.heap.size w wx) (hr : RowV w.heap.size wx v ls) : ROut ls b own { S with owing := false } w (.returned v) (wx.setCell ⟨b, 6, none⟩ (.bool false)) := by
 have h0 := h.below hb
 obtain ⟨h1, t1⟩ := h0.set_ 6 (.bool false) { S with owing := false } (fun _ _ => rfl) rfl rfl rfl
 have hbl : b < w.heap.size := by
  obtain ⟨rv, vs, bm, D, hx, _⟩ := h
  exact hx.lt
 obtain ⟨rv, vs, bm, D, hx, _⟩ := h0
 exact ⟨v, rfl, hr.set_ hbl hx (by decide) _, h1, (TT.rel own).trans ⟨Tc.of hb, KB.of hb⟩ t1⟩
theorem K.out_none {S : K.E} {N : Nat} (hN : N = S.wait.length) (h0 : 0 = min N S.win.toNat) (ho : S.owing = true) : K.out S = [K.sealed S.key (K.pk 0 S.del [])] := by
 unfold K.out K.outN
 rw [← hN, ← h0, if_pos ⟨rfl, ho⟩]
theorem K.out_some {S : K.E} {N k : Nat} (hN : N = S.wait.length) (h0 : k = min N S.win.toNat) (ho : k ≠ 0 ∨ S.owing = false) : K.out S = K.outs S k := by
 unfold K.out K.outN
 rw [← hN, ← h0, if_neg]
 rintro ⟨h1, h2⟩
 rcases ho with h | h
 ·exact h h1
 ·rw [h] at h2; cases h2
theorem RowV.of {B : Nat} {w : World} {v : Value} {k : Nat} {us : List Value} {ls : List (List UInt8)} (h : w.ownsRow B 33 1 v k us) (hv : Vs w us ls) : RowV B w v ls := by
 have h1 := h.1
 have h2 := hv.1
 have h3 : k = ls.length := by omega
 subst h3
 exact ⟨us, h, hv⟩
set_option maxRecDepth 100000 in
theorem out_any (b : Nat) (own : List Nat) (S : K.E) (w : World) (h : EndAt w b own S) (ok : K.ok S) :
  Calls Try.prog 13 #[.pointer (some ⟨b, 0, none⟩)] w (ROut (K.out S) b own { S with owing := false } w) := by
 have hok := ok
 obtain ⟨w1, w2, a1, a2, d1, d2, f1, f2, hn, hl, hcn, hkk⟩ := ok
 have HOK := Lib.hid hok; clear hok
 obtain ⟨rv, vs, bm, D, hx, hown, hvs, hmap, hheld, rfl⟩ := h
 obtain ⟨N, hN⟩ : ∃ N, N = S.wait.length := ⟨_, rfl⟩
 rw [← hN] at hown hn
 have HWN := Lib.hid hN; clear hN
 obtain ⟨hne, hnr⟩ := end_ne hx hown hmap
 obtain ⟨A0, k0, rfl, hk0, hk1, -⟩ := own_form hown
 have HE := Lib.hid (show EndAt w b (b :: bm :: (Value.slice A0 N k0).ownBlock.toList) S from ⟨_, vs, bm, D, hx, by rw [← HWN.out]; exact hown, hvs, hmap, hheld, rfl⟩)
 obtain ⟨K0, hK0⟩ : ∃ K0, K0 = min N S.win.toNat := ⟨_, rfl⟩
 have hK1 : K0 ≤ N := by omega
 have hK2 : (K0 : Int) ≤ S.win := by omega
 have hK3 : K0 ≤ k0 := by omega
 have hmin : (if S.win < (N : Int) then S.win else (N : Int)) = (K0 : Int) := by split <;> omega
 have HK0 := Lib.hid hK0; clear hK0
 have HO := Lib.hid hown; have HV := Lib.hid hvs
 have HL := Lib.hid hl
 clear hown hvs hmap hheld hnr hl hkk
 unfold maxLen at hk1
 go_enter Try.func13, Try.ntmps13
 go_wp2_with fail
 go_upto_region 2 with fail
 generalize hW_2 : w.drew = W_2
 refine gen_act ?_
 intro F_ hF_
 have ev0 : F_.eval (.tmp 0) = .pointer (some ⟨b, 0, none⟩) := by rw [← hF_]; rfl
 have hsz_ : ∀ d ∈ ([(6, []), (7, [0]), (8, [1]), (9, [2]), (10, []), (11, [4]), (12, [5]), (13, [6]), (14, [7]), (15, []), (16, [9]), (17, [10]), (18, [11]), (19, [8, 12]), (20, [3, 13]), (21, [14]), (22, [])] : List (Nat × List Nat)).map (·.1), d < F_.tmps.size := by rw [← hF_]; simp
 have HF_ := Lib.hid hF_; clear hF_
 refine wp_flow_tab true hW_2 17 [(6, []), (7, [0]), (8, [1]), (9, [2]), (10, []), (11, [4]), (12, [5]), (13, [6]), (14, [7]), (15, []), (16, [9]), (17, [10]), (18, [11]), (19, [8, 12]), (20, [3, 13]), (21, [14]), (22, [])] [SC (.pointer (some ⟨b, 0, none⟩)), SC (.pointer (some ⟨b, 0, none⟩)), SC (.pointer (some ⟨b, 2, none⟩)), SC (.slice A0 N k0), SC (.pointer (some ⟨b, 0, none⟩)), SC (.pointer (some ⟨b, 0, none⟩)), SC (.pointer (some ⟨b, 2, none⟩)), SC (.slice A0 N k0), SC (.int .i64 ((N : Nat) : Int)), SC (.pointer (some ⟨b, 0, none⟩)), SC (.pointer (some ⟨b, 0, none⟩)), SC (.pointer (some ⟨b, 0, none⟩)), SC (.int .i64 S.win), SC (.int .i64 (K0 : Int)), SC (.slice A0 K0 k0), SC (.int .i64 (K0 : Int)), SC (.int .i64 0)] [false, false, false, false, false, false, false, false, false, false, false, false, false, false, false, false, false] (by kernel_rfl) (by kernel_rfl) (by kernel_rfl) (by kernel_rfl) (by kernel_rfl) hsz_ ⟨SC.mono _, SC.mono _, SC.mono _, SC.mono _, SC.mono _, SC.mono _, SC.mono _, SC.mono _, SC.mono _, SC.mono _, SC.mono _, SC.mono _, SC.mono _, SC.mono _, SC.mono _, SC.mono _, SC.mono _, trivial⟩ ?_ ?_
 ·intro kq hkq a wx hB hp hs
  have hBo : Below w.heap.size w wx := dB hW_2 hB
  have hcase : kq = 0 ∨ kq = 1 ∨ kq = 2 ∨ kq = 3 ∨ kq = 4 ∨ kq = 5 ∨ kq = 6 ∨ kq = 7 ∨ kq = 8 ∨ kq = 9 ∨ kq = 10 ∨ kq = 11 ∨ kq = 12 ∨ kq = 13 ∨ kq = 14 ∨ kq = 15 ∨ kq = 16 := by omega
  rcases hcase with rfl | rfl | rfl | rfl | rfl | rfl | rfl | rfl | rfl | rfl | rfl | rfl | rfl | rfl | rfl | rfl | rfl
  ·clear hp
   exact ⟨_, rfl, op_mv (s := SC _) rfl ((hs 0 rfl).trans ev0)⟩
  ·obtain ⟨k2, -⟩ := hp
   exact ⟨_, rfl, op_nil rfl k2⟩
  ·obtain ⟨k2, -⟩ := hp
   exact ⟨_, rfl, fa_link_End_2 rfl k2⟩
  ·obtain ⟨k2, -⟩ := hp
   exact ⟨_, rfl, ld_____uint8 rfl k2 (hx.below hBo) rfl⟩
  ·clear hp
   exact ⟨_, rfl, op_mv (s := SC _) rfl ((hs 0 rfl).trans ev0)⟩
  ·obtain ⟨k2, -⟩ := hp
   exact ⟨_, rfl, op_nil rfl k2⟩
  ·obtain ⟨k2, -⟩ := hp
   exact ⟨_, rfl, fa_link_End_2 rfl k2⟩
  ·obtain ⟨k2, -⟩ := hp
   exact ⟨_, rfl, ld_____uint8 rfl k2 (hx.below hBo) rfl⟩
  ·obtain ⟨k2, -⟩ := hp
   have e0 : a.eval (.tmp 13) = .slice A0 N k0 := k2
   simp [Act.eval] at e0
   exact ⟨_, rfl, Does.val (by simp [execOp, Act.eval, e0, go_sem]) rfl⟩
  ·clear hp
   exact ⟨_, rfl, op_mv (s := SC _) rfl ((hs 0 rfl).trans ev0)⟩
  ·obtain ⟨k2, -⟩ := hp
   exact ⟨_, rfl, op_nil rfl k2⟩
  ·obtain ⟨k2, -⟩ := hp
   exact ⟨_, rfl, fa_link_End_0 rfl k2⟩
  ·obtain ⟨k2, -⟩ := hp
   exact ⟨_, rfl, ld_int rfl k2 (hx.below hBo) rfl⟩
  ·obtain ⟨k2, k4, -⟩ := hp
   have e0 : a.eval (.tmp 14) = .int .i64 ((N : Nat) : Int) := k2
   simp [Act.eval] at e0
   have e1 : a.eval (.tmp 18) = .int .i64 S.win := k4
   simp [Act.eval] at e1
   exact ⟨_, rfl, Does.val (by simp [execOp, Act.eval, e0, e1, go_sem, hmin]) rfl⟩
  ·obtain ⟨k2, k4, -⟩ := hp
   have e0 : a.eval (.tmp 9) = .slice A0 N k0 := k2
   simp [Act.eval] at e0
   have e1 : a.eval (.tmp 19) = .int .i64 (K0 : Int) := k4
   simp [Act.eval] at e1
   exact ⟨_, rfl, Does.val (by simp [execOp, Act.eval, e0, e1, go_sem, hK3]) rfl⟩
  ·obtain ⟨k2, -⟩ := hp
   have e0 : a.eval (.tmp 20) = .slice A0 K0 k0 := k2
   simp [Act.eval] at e0
   exact ⟨_, rfl, Does.val (by simp [execOp, Act.eval, e0, go_sem]) rfl⟩
  ·clear hp
   exact ⟨_, rfl, op_mv (s := SC _) rfl rfl⟩
 ·intro val wx hB hsp hdis
  have hBo : Below w.heap.size w wx := dB hW_2 hB
  have e14 : val 14 = .slice A0 K0 k0 := hsp 14 (by omega)
  have e15 : val 15 = .int .i64 (K0 : Int) := hsp 15 (by omega)
  have e16 : val 16 = .int .i64 0 := hsp 16 (by omega)
  rw [← HF_.out]
  change wpList _ _ _ [] _ _
  simp only [puts_consT, puts_nilm, vals, List.map_cons, List.map_nil, Nat.zero_add, Nat.reduceAdd, e14, e15, e16, List.setIfInBounds_toArray, List.set_cons_succ, List.set_cons_zero]
  clear hsp hdis HF_ hsz_ hB hW_2 e14 e15 e16 ev0
  clear hmin
  obtain ⟨w0, rfl⟩ : ∃ w0 : World, w0 = wx := ⟨_, rfl⟩
  have k8 := Lib.hid hBo; clear hBo
  go_wp2_with fail
  go_loopw [22, 3] (fun s22 s3 wr => ∃ (k : Nat) (us : List Value), k ≤ K0 ∧ s22 = .int .i64 (k : Int) ∧ Hid (wr.ownsRow w.heap.size 33 1 s3 k us) ∧ Hid (Vs wr us (K.outs S k)) ∧ Hid (Below w.heap.size w wr)) (fun s22 _ _ => (K0 - (intOf s22).toNat))
  case atStart => exact ⟨0, [], by omega, rfl, Lib.hid (World.ownsRow_nil _ _ _ _), Lib.hid (Vs.nil _), k8⟩
  case round =>
   clear k8
   obtain ⟨k, us, hk, rfl, HU, HVU, HB⟩ := hrel
   obtain ⟨wo, rfl⟩ : ∃ wo : World, wo = wr := ⟨_, rfl⟩
   obtain ⟨A3, c3, rfl, kd, hm3, -⟩ := own_form HU.out
   unfold maxLen at hm3
   have hge := HB.out.size
   have hxr := hx.below HB.out
   by_cases hlt : k < K0
   ·have hkd := decide_eq_true hlt
    have hkN : k < N := by omega
    obtain ⟨g, k1, hsl, -⟩ := own_pos HO.out (by omega)
    injection hsl with hA _ hk01
    subst hA
    subst hk01
    have hvl : vs.length = N := by have := HO.out.1; omega
    obtain ⟨u5, hu5⟩ : ∃ u, vs[k]? = some u := ⟨vs[k], List.getElem?_eq_getElem (by omega)⟩
    obtain ⟨l5, hl5⟩ : ∃ l, S.wait[k]? = some l := ⟨S.wait[k]'(by have := HWN.out; omega), List.getElem?_eq_getElem _⟩
    have hle5 : l5.length ≤ 65536 := HL.out l5 (List.mem_of_getElem? hl5)
    have hbv5 := ((HV.out).2 k u5 l5 hu5 hl5).below HB.out
    obtain ⟨A5, c5, rfl, k9, hm5, hr5, -⟩ := hbv5
    have f1 : wo.cell? ⟨g, k, none⟩ = some (.slice A5 l5.length c5) := by
     have hg := ((HO.out.lt g rfl)).2
     have h0 := own_cells HO.out k _ hu5
     rw [Addr.add_lit, Nat.zero_add] at h0
     exact (HB.out.cell (p := ⟨g, k, none⟩) hg).trans h0
    have HP := Lib.hid (fun (wx : World) (h : Below wo.heap.size wo wx) => pbytes_any (S.acked + (k : Int) + 1) S.del A5 c5 wo.heap.size l5 wx (hr5.below h (Nat.le_refl _)) h.size (by unfold W.Is64; omega) (by unfold W.Is64; omega) (by omega) (by have := K.pk_sum (S.acked + (k : Int) + 1) S.del l5; omega))
    have HF := Lib.hid (show K.outF S k = K.sealed S.key (K.pk (S.acked + (k : Int) + 1) S.del l5) by unfold K.outF; rw [List.getD_eq_getElem?_getD, hl5]; rfl)
    have hw1 : IntKind.i64.wrap (S.acked + (k : Int)) = S.acked + (k : Int) := by rw [IntKind.wrap_i64]; omega
    have hw2 : IntKind.i64.wrap (S.acked + (k : Int) + 1) = S.acked + (k : Int) + 1 := by rw [IntKind.wrap_i64]; omega
    have hk4 : (k : Int) < (K0 : Int) := by omega
    clear hr5 hl5 hu5
    obtain ⟨n5, hn5⟩ : ∃ n, n = l5.length := ⟨_, rfl⟩
    rw [← hn5] at f1 hle5 k9 HP
    have HN5 := Lib.hid hn5
    have hle6 := Lib.hid (show l5.length ≤ 65536 by omega)
    clear hn5
    go_wp2_with fail
    clear f1
    go_upto_region 5 with fail
    generalize hW_5 : wo.drew = W_5
    refine gen_act ?_
    intro F_ hF_
    have ev0 : F_.eval (.tmp 0) = .pointer (some ⟨b, 0, none⟩) := by rw [← hF_]; rfl
    have ev3 : F_.eval (.tmp 3) = .slice A3 k c3 := by rw [← hF_]; rfl
    have ev4 : F_.eval (.tmp 4) = .int .i64 (k : Int) := by rw [← hF_]; rfl
    have ev5 : F_.eval (.tmp 5) = .slice A5 n5 c5 := by rw [← hF_]; rfl
    have hsz_ : ∀ d ∈ ([(27, []), (28, []), (29, [1]), (30, [2]), (31, [3]), (32, []), (33, [5]), (34, [6]), (35, [7]), (36, []), (37, [8, 9]), (38, [10]), (39, []), (40, [12]), (41, [13]), (42, [14]), (43, []), (44, [11, 15, 16]), (45, [17]), (46, [4, 18]), (47, [19])] : List (Nat × List Nat)).map (·.1), d < F_.tmps.size := by rw [← hF_]; simp
    have HF_ := Lib.hid hF_; clear hF_
    refine wp_flow_tab true hW_5 21 [(27, []), (28, []), (29, [1]), (30, [2]), (31, [3]), (32, []), (33, [5]), (34, [6]), (35, [7]), (36, []), (37, [8, 9]), (38, [10]), (39, []), (40, [12]), (41, [13]), (42, [14]), (43, []), (44, [11, 15, 16]), (45, [17]), (46, [4, 18]), (47, [19])] [SC (.slice A3 k c3), SC (.pointer (some ⟨b, 0, none⟩)), SC (.pointer (some ⟨b, 0, none⟩)), SC (.pointer (some ⟨b, 1, none⟩)), SC (.int .u64 S.key), SC (.pointer (some ⟨b, 0, none⟩)), SC (.pointer (some ⟨b, 0, none⟩)), SC (.pointer (some ⟨b, 3, none⟩)), SC (.int .i64 S.acked), SC (.int .i64 (k : Int)), SC (.int .i64 (S.acked + (k : Int))), SC (.int .i64 (S.acked + (k : Int) + 1)), SC (.pointer (some ⟨b, 0, none⟩)), SC (.pointer (some ⟨b, 0, none⟩)), SC (.pointer (some ⟨b, 4, none⟩)), SC (.int .i64 S.del), SC (.slice A5 n5 c5), SC (.agg #[.int .i64 (S.acked + (k : Int) + 1), .int .i64 S.del, .slice A5 n5 c5]), SY (K.pk (S.acked + (k : Int) + 1) S.del l5), SY (K.sealed S.key (K.pk (S.acked + (k : Int) + 1) S.del l5)), SOne wo.heap.size (K.sealed S.key (K.pk (S.acked + (k : Int) + 1) S.del l5))] [false, false, false, false, false, false, false, false, false, false, false, false, false, false, false, false, false, false, false, false, false] (by kernel_rfl) (by kernel_rfl) (by kernel_rfl) (by kernel_rfl) (by kernel_rfl) hsz_ ⟨SC.mono _, SC.mono _, SC.mono _, SC.mono _, SC.mono _, SC.mono _, SC.mono _, SC.mono _, SC.mono _, SC.mono _, SC.mono _, SC.mono _, SC.mono _, SC.mono _, SC.mono _, SC.mono _, SC.mono _, SC.mono _, SY.mono _, SY.mono _, SOne.mono _ _, trivial⟩ ?_ ?_
    ·intro kq hkq a wx hB hp hs
     have hBo : Below wo.heap.size wo wx := dB hW_5 hB
     have hcase : kq = 0 ∨ kq = 1 ∨ kq = 2 ∨ kq = 3 ∨ kq = 4 ∨ kq = 5 ∨ kq = 6 ∨ kq = 7 ∨ kq = 8 ∨ kq = 9 ∨ kq = 10 ∨ kq = 11 ∨ kq = 12 ∨ kq = 13 ∨ kq = 14 ∨ kq = 15 ∨ kq = 16 ∨ kq = 17 ∨ kq = 18 ∨ kq = 19 ∨ kq = 20 := by omega
     rcases hcase with rfl | rfl | rfl | rfl | rfl | rfl | rfl | rfl | rfl | rfl | rfl | rfl | rfl | rfl | rfl | rfl | rfl | rfl | rfl | rfl | rfl
     ·clear hp
      exact ⟨_, rfl, op_mv (s := SC _) rfl ((hs 3 rfl).trans ev3)⟩
     ·clear hp
      exact ⟨_, rfl, op_mv (s := SC _) rfl ((hs 0 rfl).trans ev0)⟩
     ·obtain ⟨k2, -⟩ := hp
      exact ⟨_, rfl, op_nil rfl k2⟩
     ·obtain ⟨k2, -⟩ := hp
      exact ⟨_, rfl, fa_link_End_1 rfl k2⟩
     ·obtain ⟨k2, -⟩ := hp
      exact ⟨_, rfl, ld_uint64 rfl k2 (hxr.below hBo) rfl⟩
     ·clear hp
      exact ⟨_, rfl, op_mv (s := SC _) rfl ((hs 0 rfl).trans ev0)⟩
     ·obtain ⟨k2, -⟩ := hp
      exact ⟨_, rfl, op_nil rfl k2⟩
     ·obtain ⟨k2, -⟩ := hp
      exact ⟨_, rfl, fa_link_End_3 rfl k2⟩
     ·obtain ⟨k2, -⟩ := hp
      exact ⟨_, rfl, ld_int rfl k2 (hxr.below hBo) rfl⟩
     ·clear hp
      exact ⟨_, rfl, op_mv (s := SC _) rfl ((hs 4 rfl).trans ev4)⟩
     ·obtain ⟨k2, k4, -⟩ := hp
      have e0 : a.eval (.tmp 35) = .int .i64 S.acked := k2
      simp [Act.eval] at e0
      have e1 : a.eval (.tmp 36) = .int .i64 (k : Int) := k4
      simp [Act.eval] at e1
      exact ⟨_, rfl, Does.val (by simp [execOp, Act.eval, e0, e1, go_sem, hw1]) rfl⟩
     ·obtain ⟨k2, -⟩ := hp
      have e0 : a.eval (.tmp 37) = .int .i64 (S.acked + (k : Int)) := k2
      simp [Act.eval] at e0
      exact ⟨_, rfl, Does.val (by simp [execOp, Act.eval, e0, go_sem, hw2]) rfl⟩
     ·clear hp
      exact ⟨_, rfl, op_mv (s := SC _) rfl ((hs 0 rfl).trans ev0)⟩
     ·obtain ⟨k2, -⟩ := hp
      exact ⟨_, rfl, op_nil rfl k2⟩
     ·obtain ⟨k2, -⟩ := hp
      exact ⟨_, rfl, fa_link_End_4 rfl k2⟩
     ·obtain ⟨k2, -⟩ := hp
      exact ⟨_, rfl, ld_int rfl k2 (hxr.below hBo) rfl⟩
     ·clear hp
      exact ⟨_, rfl, op_mv (s := SC _) rfl ((hs 5 rfl).trans ev5)⟩
     ·obtain ⟨k2, k4, ka, -⟩ := hp
      have e0 : a.eval (.tmp 38) = .int .i64 (S.acked + (k : Int) + 1) := k2
      simp [Act.eval] at e0
      have e1 : a.eval (.tmp 42) = .int .i64 S.del := k4
      simp [Act.eval] at e1
      have e2 : a.eval (.tmp 43) = .slice A5 n5 c5 := ka
      simp [Act.eval] at e2
      exact ⟨_, rfl, Does.val (by simp [execOp, Act.eval, e0, e1, e2, go_sem]) rfl⟩
     ·obtain ⟨k2, -⟩ := hp
      exact ⟨_, rfl, Does.ry (f := 33) (call1 rfl (fun _ => by simp [go_sem]) k2) (HP.out wx hBo)⟩
     ·obtain ⟨k2, k4, -⟩ := hp
      obtain ⟨A9, c9, e9, k6, hm9, hr9, -⟩ := k4
      exact ⟨_, rfl, Does.ry (f := 24) (call2 rfl (fun _ => by simp [go_sem]) k2 e9) ((lseal_any S.key A9 c9 wx.heap.size (K.pk (S.acked + (k : Int) + 1) S.del l5) wx hr9 (Nat.le_refl _) k6 hm9 (K.pk_len _ _ _ hle6.out)).mono fun _ _ h => h.bv)⟩
     ·obtain ⟨k2, -⟩ := hp
      exact ⟨_, rfl, op_one rfl k2 hBo.size⟩
    ·intro val wx hB hsp hdis
     have hBo : Below wo.heap.size wo wx := dB hW_5 hB
     have e0 : val 0 = .slice A3 k c3 := hsp 0 (by omega)
     obtain ⟨u20, e20⟩ : ∃ v, val 20 = v := ⟨_, rfl⟩
     have h20 := hsp 20 (by omega)
     rw [e20] at h20
     change (SOne wo.heap.size (K.sealed S.key (K.pk (S.acked + (k : Int) + 1) S.del l5))) _ u20 at h20
     rw [← HF_.out]
     change wpList _ _ _ [_, _] _ _
     simp only [puts_consT, puts_nilm, vals, List.map_cons, List.map_nil, Nat.zero_add, Nat.reduceAdd, e0, e20, List.setIfInBounds_toArray, List.set_cons_succ, List.set_cons_zero]
     clear hsp hdis HF_ hsz_ hB hW_5 e0 e20 ev0 ev3 ev4 ev5
     obtain ⟨gr, u6, rfl, hgr, hbr, hv6⟩ := h20
     have hou := own_below HU.out hBo
     have hvu := HVU.out.kb (.of hBo)
     have hsz := hBo.size
     have k7 := Lib.hid (Blw HB.out hBo)
     have HOU := Lib.hid hou; have HVU2 := Lib.hid hvu; have HBR := Lib.hid hbr; have HV6 := Lib.hid hv6
     have hbase : w.heap.size ≤ wx.heap.size := by omega
     clear hBo hou hvu hbr hv6 hxr
     go_wp2_with (refine wpList_app rfl (.tmp 27) (.tmp 47) rfl rfl rfl hbase HOU.out HVU2.out HBR.out HV6.out (by omega) ?_)
     intro v7 w7 ho7 hg7 hk7 hv7
     have k5 := Lib.hid (k7.out.grown hg7 hbase (fun k hk => (HOU.out.lt k hk).1))
     have HO7 := Lib.hid ho7; have HV7 := Lib.hid hv7
     clear ho7 hg7 hk7 hv7
     go_wp2
     refine ⟨⟨k + 1, _, by omega, by go_num, HO7, Lib.hid ?_, k5⟩, by simp [intOf]; omega⟩
     rw [K.outs_succ, HF.out]
     exact HV7.out
   ·have hkK : k = K0 := by omega
    subst hkK
    obtain ⟨c0, c1, c2, c3', c4, c5, c6, c7, z, l0⟩ := hxr.f8
    by_cases hz : k = 0
    ·subst hz
     by_cases how : S.owing = true
     ·rw [how] at c6
      have HOW := Lib.hid how; clear how
      go_wp2_with fail
      have HP := Lib.hid (fun (wx : World) => pbytes_any 0 S.del none 0 0 [] wx (Rd.nil _ _ _) (Nat.zero_le _) (by unfold W.Is64; omega) (by unfold W.Is64; omega) (by simp) (by have := K.pk_sum 0 S.del []; simp only [List.length_nil] at this; omega))
      clear c0 c1 c2 c3' c4 c5 c6 c7 z
      rw [HOW.out] at hxr
      go_upto_region 8 with fail
      generalize hW_8 : wo.drew = W_8
      refine gen_act ?_
      intro F_ hF_
      have ev0 : F_.eval (.tmp 0) = .pointer (some ⟨b, 0, none⟩) := by rw [← hF_]; rfl
      have ev3 : F_.eval (.tmp 3) = .slice A3 0 c3 := by rw [← hF_]; rfl
      have hsz_ : ∀ d ∈ ([(59, []), (60, []), (61, [1]), (62, [2]), (63, [3]), (64, []), (65, [5]), (66, [6]), (67, [7]), (68, [8]), (69, [9]), (70, [4, 10]), (71, [11])] : List (Nat × List Nat)).map (·.1), d < F_.tmps.size := by rw [← hF_]; simp
      have HF_ := Lib.hid hF_; clear hF_
      refine wp_flow_tab true hW_8 13 [(59, []), (60, []), (61, [1]), (62, [2]), (63, [3]), (64, []), (65, [5]), (66, [6]), (67, [7]), (68, [8]), (69, [9]), (70, [4, 10]), (71, [11])] [SC (.slice A3 0 c3), SC (.pointer (some ⟨b, 0, none⟩)), SC (.pointer (some ⟨b, 0, none⟩)), SC (.pointer (some ⟨b, 1, none⟩)), SC (.int .u64 S.key), SC (.pointer (some ⟨b, 0, none⟩)), SC (.pointer (some ⟨b, 0, none⟩)), SC (.pointer (some ⟨b, 4, none⟩)), SC (.int .i64 S.del), SC (.agg #[.int .i64 0, .int .i64 S.del, .slice none 0 0]), SY (K.pk 0 S.del []), SY (K.sealed S.key (K.pk 0 S.del [])), SOne wo.heap.size (K.sealed S.key (K.pk 0 S.del []))] [false, false, false, false, false, false, false, false, false, false, false, false, false] (by kernel_rfl) (by kernel_rfl) (by kernel_rfl) (by kernel_rfl) (by kernel_rfl) hsz_ ⟨SC.mono _, SC.mono _, SC.mono _, SC.mono _, SC.mono _, SC.mono _, SC.mono _, SC.mono _, SC.mono _, SC.mono _, SY.mono _, SY.mono _, SOne.mono _ _, trivial⟩ ?_ ?_
      ·intro kq hkq a wx hB hp hs
       have hBo : Below wo.heap.size wo wx := dB hW_8 hB
       have hcase : kq = 0 ∨ kq = 1 ∨ kq = 2 ∨ kq = 3 ∨ kq = 4 ∨ kq = 5 ∨ kq = 6 ∨ kq = 7 ∨ kq = 8 ∨ kq = 9 ∨ kq = 10 ∨ kq = 11 ∨ kq = 12 := by omega
       rcases hcase with rfl | rfl | rfl | rfl | rfl | rfl | rfl | rfl | rfl | rfl | rfl | rfl | rfl
       ·clear hp
        exact ⟨_, rfl, op_mv (s := SC _) rfl ((hs 3 rfl).trans ev3)⟩
       ·clear hp
        exact ⟨_, rfl, op_mv (s := SC _) rfl ((hs 0 rfl).trans ev0)⟩
       ·obtain ⟨k2, -⟩ := hp
        exact ⟨_, rfl, op_nil rfl k2⟩
       ·obtain ⟨k2, -⟩ := hp
        exact ⟨_, rfl, fa_link_End_1 rfl k2⟩
       ·obtain ⟨k2, -⟩ := hp
        exact ⟨_, rfl, ld_uint64 rfl k2 (hxr.below hBo) rfl⟩
       ·clear hp
        exact ⟨_, rfl, op_mv (s := SC _) rfl ((hs 0 rfl).trans ev0)⟩
       ·obtain ⟨k2, -⟩ := hp
        exact ⟨_, rfl, op_nil rfl k2⟩
       ·obtain ⟨k2, -⟩ := hp
        exact ⟨_, rfl, fa_link_End_4 rfl k2⟩
       ·obtain ⟨k2, -⟩ := hp
        exact ⟨_, rfl, ld_int rfl k2 (hxr.below hBo) rfl⟩
       ·obtain ⟨k2, -⟩ := hp
        have e0 : a.eval (.tmp 67) = .int .i64 S.del := k2
        simp [Act.eval] at e0
        exact ⟨_, rfl, Does.val (by simp [execOp, Act.eval, e0, go_sem]) rfl⟩
       ·obtain ⟨k2, -⟩ := hp
        exact ⟨_, rfl, Does.ry (f := 33) (call1 rfl (fun _ => by simp [go_sem]) k2) (HP.out wx)⟩
       ·obtain ⟨k2, k4, -⟩ := hp
        obtain ⟨A9, c9, e9, k6, hm9, hr9, -⟩ := k4
        exact ⟨_, rfl, Does.ry (f := 24) (call2 rfl (fun _ => by simp [go_sem]) k2 e9) ((lseal_any S.key A9 c9 wx.heap.size (K.pk 0 S.del []) wx hr9 (Nat.le_refl _) k6 hm9 (K.pk_len _ _ _ (by simp))).mono fun _ _ h => h.bv)⟩
       ·obtain ⟨k2, -⟩ := hp
        exact ⟨_, rfl, op_one rfl k2 hBo.size⟩
      ·intro val wx hB hsp hdis
       have hBo : Below wo.heap.size wo wx := dB hW_8 hB
       have e0 : val 0 = .slice A3 0 c3 := hsp 0 (by omega)
       obtain ⟨u12, e12⟩ : ∃ v, val 12 = v := ⟨_, rfl⟩
       have h12 := hsp 12 (by omega)
       rw [e12] at h12
       change (SOne wo.heap.size (K.sealed S.key (K.pk 0 S.del []))) _ u12 at h12
       rw [← HF_.out]
       change wpList _ _ _ [_, _] _ _
       simp only [puts_consT, puts_nilm, vals, List.map_cons, List.map_nil, Nat.zero_add, Nat.reduceAdd, e0, e12, List.setIfInBounds_toArray, List.set_cons_succ, List.set_cons_zero]
       clear hsp hdis HF_ hsz_ hB hW_8 e0 e12 ev0 ev3
       obtain ⟨gr, u6, rfl, hgr, hbr, hv6⟩ := h12
       have hou := own_below HU.out hBo
       have hvu := HVU.out.kb (.of hBo)
       have hsz := hBo.size
       have k7 := Lib.hid (Blw HB.out hBo)
       have HOU := Lib.hid hou; have HVU2 := Lib.hid hvu; have HBR := Lib.hid hbr; have HV6 := Lib.hid hv6
       have hbase : w.heap.size ≤ wx.heap.size := by omega
       clear hBo hou hvu hbr hv6 hxr
       go_wp2_with (refine wpList_app rfl (.tmp 59) (.tmp 71) rfl rfl rfl hbase HOU.out HVU2.out HBR.out HV6.out (by omega) ?_)
       intro v7 w7 ho7 hg7 hk7 hv7
       have k5 := Lib.hid (k7.out.grown hg7 hbase (fun k hk => (HOU.out.lt k hk).1))
       have HO7 := Lib.hid ho7; have HV7 := Lib.hid hv7
       have hxr := hx.below k5.out
       obtain ⟨A7, c8, rfl, -⟩ := own_form ho7
       obtain ⟨c0, c1, c2, c3', c4, c5, c6, c7, z, l0⟩ := hxr.f8
       clear ho7 hg7 hk7 hv7
       go_wp2
       go_ret
       rw [K.out_none HWN.out HK0.out HOW.out]
       exact out_end HE.out k5.out (RowV.of HO7.out HV7.out)
     ·have how2 : S.owing = false := by simpa using how
      rw [how2] at c6
      have HOW := Lib.hid how2; clear how how2
      go_wp2
      go_ret
      rw [K.out_some HWN.out HK0.out (.inr HOW.out)]
      exact out_end HE.out HB.out (RowV.of HU.out HVU.out)
    ·have hz2 : ((k : Int) == 0) = false := beq_eq_false_iff_ne.2 (by omega)
     have HZ := Lib.hid hz; clear hz
     go_wp2
     go_ret
     rw [K.out_some HWN.out HK0.out (.inl HZ.out)]
     exact out_end HE.out HB.out (RowV.of HU.out HVU.out)
end Go.Proofs.Ytgdibcgphjmofaa
namespace Go.Proofs.Ytgdibcgphjmofaa
set_option maxHeartbeats 1000000
open Go.RowKit
open Go.Maps
set_option linter.unusedVariables false
theorem setCells_row (g T : Nat) (fr : Nat × Nat) : ∀ (us : List Value) (o : Nat) (w : World) (cur : Array Value), w.heap[g]? = some (.cells cur T fr) →
  ∃ cur', (w.setCells g o us).heap[g]? = some (.cells cur' T fr) ∧ cur'.size = cur.size ∧ ∀ j, j < o → cur'[j]? = cur[j]?
 | [], o, w, cur, h => ⟨cur, h, rfl, fun _ _ => rfl⟩
 | u :: us, o, w, cur, h => by
  have h1 : (w.setCell ⟨g, o, none⟩ u).heap[g]? = some (.cells (cur.setIfInBounds o u) T fr) := by
   simp [World.setCell, Array.getElem?_modify, h]
  obtain ⟨cur', h2, h3, h4⟩ := setCells_row g T fr us (o + 1) _ _ h1
  refine ⟨cur', h2, by simpa using h3, fun j hj => ?_⟩
  rw [h4 j (by omega), Array.getElem?_setIfInBounds_ne (by omega)]
theorem setCells_other (g k : Nat) (hk : k ≠ g) : ∀ (us : List Value) (o : Nat) (w : World), (w.setCells g o us).heap[k]? = w.heap[k]?
 | [], o, w => rfl
 | u :: us, o, w => (setCells_other g k hk us (o + 1) _).trans (Below.heap_setCell w ⟨g, o, none⟩ u k hk)
theorem setCells_meta (g : Nat) : ∀ (us : List Value) (o : Nat) (w : World), (w.setCells g o us).os = w.os ∧ (w.setCells g o us).tape = w.tape ∧ (w.setCells g o us).output = w.output ∧ (w.setCells g o us).heap.size = w.heap.size
 | [], o, w => ⟨rfl, rfl, rfl, rfl⟩
 | u :: us, o, w => by
  have h := setCells_meta g us (o + 1) (w.setCell ⟨g, o, none⟩ u)
  exact ⟨h.1, h.2.1, h.2.2.1, h.2.2.2.trans (by simp [World.setCell])⟩
/-- What Delete leaves. -/
theorem del_world {w wx : World} {g N n cap : Nat} {cur : Array Value} {vs : List Value} (hB : Below w.heap.size w wx) (hg : w.heap[g]? = some (.cells cur 33 (0, 0))) (h1 : N ≤ cap) (h2 : cap ≤ maxLen) (h3 : cur.size = cap) (h4 : cur.toList.take N = vs) (hn : n ≤ N) :
  ((wx.setRow g (vs.drop n ++ cur.toList.drop (N - n)).toArray).setCells g (N - n) (List.replicate n (.slice none 0 0))).ownsRow 0 33 1 (.slice (some ⟨g, 0, none⟩) (N - n) cap) (N - n) (vs.drop n) ∧
  TT [g] w ((wx.setRow g (vs.drop n ++ cur.toList.drop (N - n)).toArray).setCells g (N - n) (List.replicate n (.slice none 0 0))) := by
 have hgl : g < w.heap.size := (Array.getElem?_eq_some_iff.1 hg).1
 have hgx : wx.heap[g]? = some (.cells cur 33 (0, 0)) := (hB.block g hgl).trans hg
 have hvl : vs.length = N := by rw [← h4]; simp; omega
 have hrow := setRow_heap wx g cur (vs.drop n ++ cur.toList.drop (N - n)).toArray 33 (0, 0) hgx
 obtain ⟨cur', k0, k1, k2⟩ := setCells_row g 33 (0, 0) (List.replicate n (.slice none 0 0)) (N - n) _ _ hrow
 obtain ⟨m1, m2, m3, m4⟩ := setCells_meta g (List.replicate n (.slice none 0 0)) (N - n) (wx.setRow g (vs.drop n ++ cur.toList.drop (N - n)).toArray)
 have hb : ∀ k, k < w.heap.size → k ≠ g → ((wx.setRow g (vs.drop n ++ cur.toList.drop (N - n)).toArray).setCells g (N - n) (List.replicate n (.slice none 0 0))).heap[k]? = w.heap[k]? := fun k hk hkg => by
  rw [setCells_other g k hkg, setRow_other wx g k _ hkg]
  exact hB.block k hk
 have hsz : w.heap.size ≤ ((wx.setRow g (vs.drop n ++ cur.toList.drop (N - n)).toArray).setCells g (N - n) (List.replicate n (.slice none 0 0))).heap.size := by
  rw [m4]
  have := hB.size
  simpa [World.setRow] using this
 refine ⟨⟨by simp; omega, .inr ⟨g, cap, cur', rfl, Nat.zero_le _, k0, by omega, h2, ?_, ?_⟩⟩, ⟨m1.trans hB.os, m2.trans hB.tape, m3.trans hB.output, hsz, fun k hk hn => hb k hk (by simpa using hn)⟩, hsz, fun b cs fr e => ?_⟩
 ·rw [k1]
  simp
  omega
 ·rw [Nat.mul_one]
  apply List.ext_getElem?
  intro j
  rw [List.getElem?_take]
  by_cases hj : j < N - n
  ·rw [if_pos hj, Array.getElem?_toList, k2 j hj, List.getElem?_toArray, List.getElem?_append_left (by simp; omega)]
  ·rw [if_neg hj, List.getElem?_eq_none (by simp; omega)]
 ·have hbg : b ≠ g := by
   rintro rfl
   rw [hg] at e
   injection e with e
   injection e with _ e _
   exact absurd e (by decide)
  exact (hb b (Array.getElem?_eq_some_iff.1 e).1 hbg).trans e
theorem del_app {o : Oper} {a : Act} {K : Act → World → Prop} {Q : Exit → Act → World → Prop} {wx W1 : World} {x y : Operand} {g N n cap c2 : Nat} {AD : Addr} {cur : Array Value} {vs : List Value}
  (ho : o.op = .call { callee := .builtin .append, args := #[x, y], argTypes := #[28, 28] }) (ex : a.eval x = .slice (some ⟨g, 0, none⟩) 0 cap) (ey : a.eval y = .slice (some AD) (N - n) c2)
  (hg : wx.heap[g]? = some (.cells cur 33 (0, 0))) (hs : ∀ t u, (vs.drop n)[t]? = some u → wx.cell? (AD.add t) = some u) (h1 : ∀ u ∈ vs, u.oneCell' = true) (hv : vs.length = N) (hc : cur.size = cap) (hn : n ≤ N) (hN : N ≤ cap)
  (hW : W1 = wx.setRow g (vs.drop n ++ cur.toList.drop (N - n)).toArray) (h : K (a.put o.dst (.slice (some ⟨g, 0, none⟩) (N - n) cap)) W1) : o.wp Try.prog a wx K Q := by
 obtain ⟨i0, hi, hz0, hz1, hz2⟩ := info_parts info_b
 have hlen : (vs.drop n).length = N - n := by rw [List.length_drop, hv]
 have hr := run_append_room (P := Try.prog) wx 28 o.type 33 i0 Try.underlying28 hi g 0 cap cur hg AD (N - n) c2 (vs.drop n) (by rw [hz1, hlen]; omega) hs (fun u hu => h1 u (List.mem_of_mem_drop hu)) (by omega) (by rw [hlen, hc]; omega)
 simp only [Nat.zero_mul, List.take_zero, List.nil_append, Nat.zero_add, hlen] at hr
 rw [← hW] at hr
 unfold Oper.wp execOp
 simp only [ho, resolve, invoke, builtin, Sem.run_bind, Sem.run_pure, Result.andThen_ok, List.map_toArray, List.map_cons, List.map_nil, ex, ey, hr]
 exact h
/-- What Delete returns. -/
def RDel (N n : Nat) (vs : List Value) (rv : Value) (w : World) (e : Ending) (w' : World) : Prop := ∃ v, e = .returned v ∧ w'.ownsRow 0 33 1 v (N - n) (vs.drop n) ∧ v.ownBlock = rv.ownBlock ∧ TT rv.ownBlock.toList w w'
set_option maxRecDepth 100000 in
theorem delete_any (rv : Value) (N n : Nat) (vs : List Value) (w : World) (hown : w.ownsRow 0 33 1 rv N vs) (h1c : ∀ u ∈ vs, u.oneCell' = true) (h0 : 0 < n) (hn : n ≤ N) :
  Calls Try.prog 37 #[rv, .int .i64 0, .int .i64 (n : Int)] w (RDel N n vs rv w) := by
 obtain ⟨i0, hi, hz0, hz1, hz2⟩ := info_parts info_b
 rcases hown.2 with ⟨rfl, h⟩ | ⟨g, cap, cur, rfl, _, hg, hN, hm, hcs, htk⟩
 ·omega
 rw [Nat.mul_one] at hcs htk
 have hgl : g < w.heap.size := (Array.getElem?_eq_some_iff.1 hg).1
 have hvl : vs.length = N := by have := hown.1; omega
 clear hown
 obtain ⟨AD, hAD, hsrc⟩ : ∃ AD : Addr, (if cap = n then (some ⟨g, 0, none⟩ : Option Addr) else some ⟨g, n, none⟩) = some AD ∧ Hid (∀ wx : World, Below w.heap.size w wx → ∀ t u, (vs.drop n)[t]? = some u → wx.cell? (AD.add t) = some u) := by
  refine ⟨if cap = n then (⟨g, 0, none⟩ : Addr) else ⟨g, n, none⟩, by split <;> rfl, Lib.hid (fun wx hB t u hu => ?_)⟩
  have ht := (List.getElem?_eq_some_iff.1 hu).1
  rw [List.length_drop] at ht
  rw [if_neg (by omega), Addr.add_lit, hB.cell (p := ⟨g, n + t, none⟩) hgl, cell_of_row w g (n + t) _ _ _ hg]
  rw [List.getElem?_drop, ← htk, List.getElem?_take] at hu
  split at hu
  ·simpa using hu
  ·cases hu
 have HW := Lib.hid (fun (wx : World) (hB : Below w.heap.size w wx) => del_world hB hg hN hm hcs htk hn)
 have HG := Lib.hid (fun (wx : World) (hB : Below w.heap.size w wx) => (hB.block g hgl).trans hg)
 have HV := Lib.hid hvl; have HC := Lib.hid hcs; have H1 := Lib.hid h1c
 have hd : ((0 : Int) == (n : Int)) = false := beq_eq_false_iff_ne.2 (by omega)
 have hnN : (n : Int) ≤ (N : Int) := by omega
 unfold maxLen at hm
 clear hg hcs htk hvl h1c
 go_enter Try.func37, Try.ntmps37
 go_wp2_with fail
 go_upto_region 5 with fail
 generalize hW_5 : w.drew = W_5
 refine gen_act ?_
 intro F_ hF_
 have ev0 : F_.eval (.tmp 0) = .slice (some ⟨g, 0, none⟩) N cap := by rw [← hF_]; rfl
 have ev1 : F_.eval (.tmp 1) = .int .i64 0 := by rw [← hF_]; rfl
 have ev2 : F_.eval (.tmp 2) = .int .i64 (n : Int) := by rw [← hF_]; rfl
 have hsz_ : ∀ d ∈ ([(20, []), (21, []), (22, [0, 1]), (23, []), (24, []), (25, [3, 4])] : List (Nat × List Nat)).map (·.1), d < F_.tmps.size := by rw [← hF_]; simp
 have HF_ := Lib.hid hF_; clear hF_
 refine wp_flow_tab true hW_5 6 [(20, []), (21, []), (22, [0, 1]), (23, []), (24, []), (25, [3, 4])] [SC (.slice (some ⟨g, 0, none⟩) N cap), SC (.int .i64 0), SC (.slice (some ⟨g, 0, none⟩) 0 cap), SC (.slice (some ⟨g, 0, none⟩) N cap), SC (.int .i64 (n : Int)), SC (.slice (some AD) (N - n) (cap - n))] [false, false, false, false, false, false] (by kernel_rfl) (by kernel_rfl) (by kernel_rfl) (by kernel_rfl) (by kernel_rfl) hsz_ ⟨SC.mono _, SC.mono _, SC.mono _, SC.mono _, SC.mono _, SC.mono _, trivial⟩ ?_ ?_
 ·intro kq hkq a wx hB hp hs
  have hBo : Below w.heap.size w wx := dB hW_5 hB
  have hcase : kq = 0 ∨ kq = 1 ∨ kq = 2 ∨ kq = 3 ∨ kq = 4 ∨ kq = 5 := by omega
  rcases hcase with rfl | rfl | rfl | rfl | rfl | rfl
  ·clear hp
   exact ⟨_, rfl, op_mv (s := SC _) rfl ((hs 0 rfl).trans ev0)⟩
  ·clear hp
   exact ⟨_, rfl, op_mv (s := SC _) rfl ((hs 1 rfl).trans ev1)⟩
  ·obtain ⟨k0, k1, -⟩ := hp
   have e0 : a.eval (.tmp 20) = .slice (some ⟨g, 0, none⟩) N cap := k0
   simp [Act.eval] at e0
   have e1 : a.eval (.tmp 21) = .int .i64 0 := k1
   simp [Act.eval] at e1
   exact ⟨_, rfl, Does.val (by simp [execOp, Act.eval, e0, e1, go_sem]) rfl⟩
  ·clear hp
   exact ⟨_, rfl, op_mv (s := SC _) rfl ((hs 0 rfl).trans ev0)⟩
  ·clear hp
   exact ⟨_, rfl, op_mv (s := SC _) rfl ((hs 2 rfl).trans ev2)⟩
  ·obtain ⟨k0, k1, -⟩ := hp
   have e0 : a.eval (.tmp 23) = .slice (some ⟨g, 0, none⟩) N cap := k0
   simp [Act.eval] at e0
   have e1 : a.eval (.tmp 24) = .int .i64 (n : Int) := k1
   simp [Act.eval] at e1
   exact ⟨_, rfl, Does.val (by simp [execOp, Act.eval, e0, e1, go_sem, hnN, hAD]) rfl⟩
 ·intro val wx hB hsp hdis
  have hBo : Below w.heap.size w wx := dB hW_5 hB
  have e2 : val 2 = .slice (some ⟨g, 0, none⟩) 0 cap := hsp 2 (by omega)
  have e5 : val 5 = .slice (some AD) (N - n) (cap - n) := hsp 5 (by omega)
  rw [← HF_.out]
  change wpList _ _ _ [_, _] _ _
  simp only [puts_consT, puts_nilm, vals, List.map_cons, List.map_nil, Nat.zero_add, Nat.reduceAdd, e2, e5, List.setIfInBounds_toArray, List.set_cons_succ, List.set_cons_zero]
  clear hsp hdis HF_ hsz_ hB hW_5 e2 e5 ev0 ev1 ev2
  obtain ⟨W1, hW1⟩ : ∃ W1, W1 = wx.setRow g (vs.drop n ++ cur.toList.drop (N - n)).toArray := ⟨_, rfl⟩
  have hw := HW.out wx hBo
  rw [← hW1] at hw
  have hlen : (vs.drop n).length = N - n := by rw [List.length_drop, HV.out]
  have hrow := setRow_heap wx g cur (vs.drop n ++ cur.toList.drop (N - n)).toArray 33 (0, 0) (HG.out wx hBo)
  rw [← hW1] at hrow
  have hcl : ∀ ty, (Builtin.clear_ #[28] ty #[.slice (some ⟨g, N - n, none⟩) n (cap - (N - n))]).run Try.prog W1 = .ok (.tuple #[]) (W1.setCells g (N - n) (List.replicate n (.slice none 0 0))) := fun ty => by
   have hsz : (vs.drop n ++ cur.toList.drop (N - n)).toArray.size = cap := by
    have h1 := HC.out
    have h2 : (cur.toList.drop (N - n)).length = cap - (N - n) := by rw [List.length_drop]; simp; omega
    rw [List.size_toArray, List.length_append, hlen, h2]
    omega
   refine Lib.run_clear_slice W1 28 33 ty (.slice none 0 0) Try.underlying28 (fun _ => by kernel_rfl) rfl rfl g (N - n) _ _ (by omega) (fun t ht => ?_) (fun t ht => ?_)
   ·rw [cell_of_row W1 g (N - n + t) _ _ _ hrow, Array.getElem?_eq_getElem (by rw [hsz]; omega)]
    rfl
   ·simp [World.frozen?, hrow]
  have HW1 := Lib.hid hW1; have HWO := Lib.hid hw; have HX := Lib.hid hBo
  clear hW1 hw hrow hlen hBo
  have hnn : N - (N - n) = n := by omega
  go_wp2_with (at_builtin; refine wpList_plain rfl (fun K hK => ?_); refine del_app (g := g) (cap := cap) (vs := vs) (N := N) rfl rfl rfl (HG.out wx HX.out) (hsrc.out wx HX.out) H1.out HV.out HC.out hn hN HW1.out ?_)
  go_ret
  exact ⟨_, rfl, HWO.out.1, rfl, by simpa [Value.ownBlock] using HWO.out.2⟩
end Go.Proofs.Ytgdibcgphjmofaa
