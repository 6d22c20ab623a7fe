/-
 THE WALK of Send.
-/
import Derived.Test.YtgdibcgphjmofaaLnkO
import Derived.Test.YtgdibcgphjmofaaLnkS
import Derived.Maps.AppendAt
namespace Go.Proofs.Ytgdibcgphjmofaa
set_option maxHeartbeats 1000000
open Go.RowKit
open Go.Maps
set_option linter.unusedVariables false
theorem info_b : (Try.prog.info? 33).map (fun i => (i.zero, i.size, i.bytes)) = some (some (.slice none 0 0), 1, 24) := by kernel_rfl
theorem dT {R : List Nat} {w W wx : World} (hW : w.drew = W) (h : TT R W wx) : TT R w wx := by subst hW; exact h.drew
set_option maxRecDepth 100000 in
theorem clone_nil0 (c : Nat) (w : World) : Calls Try.prog 32 #[.slice none 0 c] w (RB_ [] w) := by
 have hq := Lib.run_eql_slice_nil (P := Try.prog) w 33 5 none 0 c 0 0 Try.underlying33
 simp only [Option.isNone] at hq
 go_enter Try.func32, Try.ntmps32
 go_wp2
 go_ret
 exact ⟨_, rfl, World.ownsRow_nil _ _ _ _, Below.refl _ _⟩
set_option maxRecDepth 100000 in
theorem clone_some (ad : Addr) (c B : Nat) (l : List UInt8) (w : World) (hr : Rd w B (some ad) (W.bc l)) (hB : B ≤ w.heap.size) (hm : c ≤ maxLen) (hl : l.length ≤ 140737488355328) :
  Calls Try.prog 32 #[.slice (some ad) l.length c] w (RB_ l w) := by
 unfold maxLen at hm
 obtain ⟨i0, hi, hz0, hz1, hz2⟩ := info_parts info_u8
 have HR := Lib.hid (hr.alloc (w := w) (o := .cells #[] 5) hB); clear hr
 have hq := Lib.run_eql_slice_nil (P := Try.prog) w 33 5 (some ad) l.length c 0 0 Try.underlying33
 simp only [Option.isNone] at hq
 generalize hN : l.length = N at *
 have HN := Lib.hid hN; clear hN
 go_enter Try.func32, Try.ntmps32
 go_wp2_with (at_builtin; refine wpList_append_rd rfl (.tmp 5) (.tmp 6) _ rfl w.heap.size 5 i0 _ 1 Try.underlying33 hi hz0 hz1 hz2 rfl _ _ _ rfl (World.ownsRow_made w #[] 0 (Nat.le_refl _) (by decide) rfl) (some ad) N c B (W.bc l) rfl HR.out (by rw [W.bc_length]; exact HN.out) (W.bc_oneCell l) (by unfold maxLen; omega) (by omega) (by simp) ?_)
 intro v' w2 hown hgrow
 have hB : Below w.heap.size w w2 := ((Below.refl _ _).alloc (Nat.le_refl _) _).grown hgrow (by simp) (fun k hk => by simp [Value.ownBlock] at hk; omega)
 have HOWN := Lib.hid hown; have HB := Lib.hid hB
 clear hown hB hgrow
 go_wp2
 go_ret
 refine ⟨_, rfl, ?_, HB.out⟩
 have h : w2.ownsRow w.heap.size 5 1 v' N (W.bc l) := by simpa using HOWN.out
 rw [HN.out]
 exact h
/-- slices.Clone of what reads as bytes. -/
theorem clone_bv {w : World} {v : Value} {l : List UInt8} (h : BV w v l) (hl : l.length ≤ 140737488355328) : Calls Try.prog 32 #[v] w (RBV l w) := by
 obtain ⟨A, c, rfl, h1, h2, h3, _⟩ := h
 cases A with
 | some ad => exact (clone_some ad c _ l w h3 (Nat.le_refl _) h2 hl).mono fun _ _ h => h.bv
 | none =>
  have h0 : l = [] := by
   rcases Nat.eq_zero_or_pos l.length with h | h
   ·exact List.eq_nil_of_length_eq_zero h
   ·obtain ⟨b, o, e1, _⟩ := h3 (by simpa using h)
    cases e1
  subst h0
  exact (clone_nil0 c w).mono fun _ _ h => h.bv
/-- A row of one slice of bytes. -/
def SOne (B : Nat) (l : List UInt8) : Sp := fun w v => ∃ g u, v = .slice (some ⟨g, 0, none⟩) 1 1 ∧ B ≤ g ∧ Bx w g 33 [u] ∧ BV w u l
theorem SOne.mono (B : Nat) (l : List UInt8) : Mono (SOne B l) := fun _ _ _ ⟨g, u, h1, h2, h3, h4⟩ hb => ⟨g, u, h1, h2, h3.below hb, h4.below hb⟩
theorem SOne.monoT {R : List Nat} {B : Nat} {l : List UInt8} (hR : ∀ k ∈ R, k < B) : MonoT (TT R) (SOne B l) := fun _ _ _ ⟨g, u, h1, h2, h3, h4⟩ hb => ⟨g, u, h1, h2, h3.tc hb.1 (fun e => by have := hR g e; omega), h4.kb hb.2⟩
/-- A row of messages with one more. -/
def SApp (R : List Nat) (B N : Nat) (ls : List (List UInt8)) (l : List UInt8) : Sp := fun w v => ∃ us, w.ownsRow 0 33 1 v (N + 1) us ∧ Vs w us (ls ++ [l]) ∧ ∀ k, v.ownBlock = some k → k ∈ R ∨ B ≤ k
theorem SApp.mono (R : List Nat) (B N : Nat) (ls : List (List UInt8)) (l : List UInt8) : Mono (SApp R B N ls l) := fun _ _ _ ⟨us, h1, h2, h3⟩ hb => ⟨us, own_below h1 hb, h2.kb (.of hb), h3⟩
section
variable {o : Oper} {a : Act} {wx : World} {x y : Operand}
theorem op_one {S B : Nat} {l : List UInt8} (ho : o.op = .buildSlice S 1 #[(0, x)]) (hx : SY l wx (a.eval x)) (hB : B ≤ wx.heap.size)
  (hr : ∀ A n c, (Instr.buildSlice S 1 #[(0, .slice A n c)]).run Try.prog wx = .ok (.slice (some ⟨wx.heap.size, 0, none⟩) 1 1) (wx.alloc (.cells #[.slice A n c] 33)) := by intro _ _ _; simp [go_sem]) : Does Try.prog o (SOne B l) false a wx := by
 obtain ⟨A, c, e1, r⟩ := hx
 have h : ∀ ρ : Operand → Value, ρ x = .slice A l.length c → (execOp ρ o).run Try.prog wx = .ok (.value (.slice (some ⟨wx.heap.size, 0, none⟩) 1 1)) (wx.alloc (.cells #[.slice A l.length c] 33)) := by
  intro ρ e1; simp [execOp, ho, e1, hr, Result.andThen]
 exact .inl ⟨_, _, h _ e1, (Below.refl _ _).alloc (Nat.le_refl _) _, ⟨_, _, rfl, hB, Bx.at_ rfl, BV.alloc ⟨A, c, rfl, r⟩ _⟩, fun h => by cases h⟩
/-- append of a message onto a row of messages. -/
theorem run_app {w : World} {ty : TypeId} {rv : Value} {N g base : Nat} {vs : List Value} {u : Value} {ls : List (List UInt8)} {l : List UInt8} (hbase : base ≤ w.heap.size) (hown : w.ownsRow base 33 1 rv N vs) (hv : Vs w vs ls) (hg : Bx w g 33 [u]) (hu : BV w u l) (hN : N ≤ 1000000000) :
  ∃ v' w', (Builtin.append_ #[28, 28] ty #[rv, .slice (some ⟨g, 0, none⟩) 1 1]).run Try.prog w = .ok v' w' ∧ w'.ownsRow base 33 1 v' (N + 1) (vs ++ [u]) ∧ w.grownBy w' rv.ownBlock ∧ KB w w' ∧ Vs w' (vs ++ [u]) (ls ++ [l]) ∧ (∀ k, v'.ownBlock = some k → rv.ownBlock = some k ∨ w.heap.size ≤ k) := by
 obtain ⟨i0, hi, hz0, hz1, hz2⟩ := info_parts info_b
 have hcell : ∀ j x, ([u] : List Value)[j]? = some x → w.cell? ((⟨g, 0, none⟩ : Addr).add j) = some x := fun j x hx => by
  rw [Addr.add_lit, Nat.zero_add]; exact hg.cell hx
 obtain ⟨v', w', r1, r2, r3, r4⟩ := run_append_own_at w base 28 ty 33 i0 _ 1 24 Try.underlying28 hi hz0 hz1 hz2 rfl (by decide) rv N vs hown ⟨g, 0, none⟩ 1 1 [u] rfl hcell (fun x hx => by simp at hx; subst hx; exact hu.one) (by unfold maxLen; omega) (by omega) hbase
 have hgl := hg.lt
 have hkb : KB w w' := (KB.refl w).grown r3 (fun k hk cs fr e => by
  rcases hown.2 with ⟨rfl, _⟩ | ⟨g1, cap, cur, rfl, _, h4, _⟩
  ·simp [Value.ownBlock] at hk
  ·simp [Value.ownBlock] at hk
   subst hk
   rw [h4] at e
   injection e with e
   injection e with _ e _
   exact absurd e (by decide))
 refine ⟨v', w', r1, r2, r3, hkb, (hv.kb hkb).snoc (hu.kb hkb), fun k hk => ?_⟩
 rcases r4.2 with h | h
 ·rw [h] at hk; exact .inl hk
 ·rw [h] at hk; injection hk with hk; exact .inr (by omega)
theorem wpList_app {ops : Array Oper} {rest : List Oper} {Q : Exit → Act → World → Prop} {w : World} {rv : Value} {N g base : Nat} {vs : List Value} {u : Value} {ls : List (List UInt8)} {l : List UInt8} (hgd : o.guard = none) (x y : Operand) (ho : o.op = .call { callee := .builtin .append, args := #[x, y], argTypes := #[28, 28] })
  (ex : a.eval x = rv) (ey : a.eval y = .slice (some ⟨g, 0, none⟩) 1 1) (hbase : base ≤ w.heap.size) (hown : w.ownsRow base 33 1 rv N vs) (hv : Vs w vs ls) (hg : Bx w g 33 [u]) (hu : BV w u l) (hN : N ≤ 1000000000)
  (h : ∀ v' w', w'.ownsRow base 33 1 v' (N + 1) (vs ++ [u]) → w.grownBy w' rv.ownBlock → KB w w' → Vs w' (vs ++ [u]) (ls ++ [l]) → wpList Try.prog ops Q rest (a.put o.dst v') w') : wpList Try.prog ops Q (o :: rest) a w := by
 refine wpList_plain hgd fun K hK => ?_
 obtain ⟨v', w', r1, r2, r3, r4, r5, r6⟩ := run_app (ty := o.type) hbase hown hv hg hu hN
 unfold Oper.wp execOp
 simp only [ho, resolve, invoke, builtin, Sem.run_bind, Sem.run_pure, Result.andThen_ok, List.map_toArray, List.map_cons, List.map_nil, ex, ey, r1]
 exact hK _ _ (h v' w' r2 r3 r4 r5)
theorem op_app {R : List Nat} {N g : Nat} {rv u : Value} {vs : List Value} {ls : List (List UInt8)} {l : List UInt8} (ho : o.op = .call { callee := .builtin .append, args := #[x, y], argTypes := #[28, 28] })
  (ex : a.eval x = rv) (ey : a.eval y = .slice (some ⟨g, 0, none⟩) 1 1) (hown : wx.ownsRow 0 33 1 rv N vs) (hv : Vs wx vs ls) (hg : Bx wx g 33 [u]) (hu : BV wx u l) (hN : N ≤ 1000000000) (hR : ∀ k, rv.ownBlock = some k → k ∈ R) {B : Nat} (hB : B ≤ wx.heap.size) :
  DoesT (TT R) Try.prog o (SApp R B N ls l) false a wx := by
 obtain ⟨v', w', r1, r2, r3, r4, r5, r6⟩ := run_app (ty := o.type) (Nat.zero_le _) hown hv hg hu hN
 have h : ∀ ρ : Operand → Value, ρ x = rv → ρ y = .slice (some ⟨g, 0, none⟩) 1 1 → (execOp ρ o).run Try.prog wx = .ok (.value v') w' := by
  intro ρ e1 e2
  unfold execOp
  simp only [ho, resolve, invoke, builtin, Sem.run_bind, Sem.run_pure, Result.andThen_ok, List.map_toArray, List.map_cons, List.map_nil, e1, e2, r1]
 exact .inl ⟨v', w', h _ ex ey, ⟨(Tc.refl R wx).grown r3 (fun k hk => .inl (hR k hk)), r4⟩, ⟨_, r2, r5, fun k hk => by rcases r6 k hk with h | h; exact .inl (hR k h); exact .inr (by omega)⟩, fun h => by cases h⟩
end
/-- Blocks of an end are different. -/
theorem end_ne {w : World} {b bm N : Nat} {cs : List Value} {rv : Value} {vs : List Value} {D : DataW Value} {n : Nat} (hx : Bx w b 65 cs) (hown : w.ownsRow 0 33 1 rv N vs) (hm : w.ownsMap Try.prog 3 RV bm n D) : b ≠ bm ∧ (∀ k, rv.ownBlock = some k → b ≠ k ∧ bm ≠ k) := by
 obtain ⟨es, ck, hm, _⟩ := hm
 refine ⟨fun e => ?_, fun k hk => ?_⟩
 ·subst e
  unfold Bx at hx
  rw [hm] at hx
  cases hx
 ·rcases hown.2 with ⟨rfl, _⟩ | ⟨g1, cap, cur, rfl, _, h4, _⟩
  ·simp [Value.ownBlock] at hk
  ·simp [Value.ownBlock] at hk
   subst hk
   refine ⟨fun e => ?_, fun e => ?_⟩
   ·subst e
    unfold Bx at hx
    rw [hx] at h4
    injection h4 with h4
    injection h4 with _ e _
    exact absurd e (by decide)
   ·subst e
    rw [hm] at h4
    cases h4
theorem map_tc {w w' : World} {bm n : Nat} {D : DataW Value} {R : List Nat} (h : w.ownsMap Try.prog 3 RV bm n D) (t : Tc R w w') (hb : bm ∉ R) : w'.ownsMap Try.prog 3 RV bm n D := by
 have hl := h.lt
 obtain ⟨es, ck, h1, h2⟩ := h
 exact ⟨es, ck, (t.block bm hl hb).trans h1, h2⟩
theorem map_set {w : World} {bm n : Nat} {D : DataW Value} (h : w.ownsMap Try.prog 3 RV bm n D) {p : Addr} (hp : bm ≠ p.block) (u : Value) : (w.setCell p u).ownsMap Try.prog 3 RV bm n D := h.setCell hp u
theorem row_set {w : World} {base e size n : Nat} {v : Value} {xs : List Value} (h : w.ownsRow base e size v n xs) {p : Addr} (hp : ∀ k, v.ownBlock = some k → k ≠ p.block) (u : Value) : (w.setCell p u).ownsRow base e size v n xs := by
 refine ⟨h.1, ?_⟩
 rcases h.2 with h1 | ⟨g, cap, cur, rfl, hb, hg, r⟩
 ·exact .inl h1
 ·exact .inr ⟨g, cap, cur, rfl, hb, (Below.heap_setCell w p u g (hp g rfl)).trans hg, r⟩
theorem hv2 {w w' : World} {us : List Value} {ls : List (List UInt8)} (k : KB w w') (h : Vs w us ls) : Vs w' us ls := h.kb k
theorem send_no (b : Nat) (own : List Nat) (S : K.E) (A : Option Addr) (n c : Nat) (w : World) (h : EndAt w b own S) (hn : 65536 < n ∨ 1000 ≤ S.wait.length) : Calls Try.prog 11 #[.pointer (some ⟨b, 0, none⟩), .slice A n c] w fun e w' => e = .returned (.int .i64 4) ∧ w = w' := by
 obtain ⟨rv, vs, bm, D, hx, hown, -⟩ := h
 obtain ⟨A0, c0, rfl, -⟩ := own_form hown
 obtain ⟨c0, c1, c2, c3, c4, c5, c6, c7, z, l⟩ := hx.f8
 clear hown hx
 generalize S.wait.length = N at *
 by_cases h1 : 65536 < n
 ·have hd := decide_eq_true (show (65536 : Int) < (n : Int) by omega)
  clear hn h1
  go_enter Try.func11, Try.ntmps11
  go_wp2
  go_ret
  exact ⟨rfl, rfl⟩
 ·have hd := decide_eq_false (show ¬ (65536 : Int) < (n : Int) by omega)
  have hd2 := decide_eq_true (show (1000 : Int) ≤ (N : Int) by omega)
  clear hn h1
  go_enter Try.func11, Try.ntmps11
  go_wp2
  go_ret
  exact ⟨rfl, rfl⟩
def RSend (b : Nat) (own : List Nat) (S : K.E) (w : World) (e : Ending) (w' : World) : Prop := e = .returned (.int .i64 0) ∧ EndTo b own S w w'
set_option maxRecDepth 100000 in
theorem send_yes (b : Nat) (own : List Nat) (S : K.E) (x : Value) (l : List UInt8) (w : World) (h : EndAt w b own S) (hbv : BV w x l) (h1 : l.length ≤ 65536) (h2 : S.wait.length < 1000) :
  Calls Try.prog 11 #[.pointer (some ⟨b, 0, none⟩), x] w (RSend b own { S with wait := S.wait ++ [l] } w) := by
 obtain ⟨rv, vs, bm, D, hx, hown, hvs, hmap, hheld, rfl⟩ := h
 obtain ⟨N, hN⟩ : ∃ N, N = S.wait.length := ⟨_, rfl⟩
 rw [← hN] at hown h2
 have HWN := Lib.hid hN; clear hN
 obtain ⟨hne, hnr⟩ := end_ne hx hown hmap
 obtain ⟨R, hR⟩ : ∃ R, R = rv.ownBlock.toList := ⟨_, rfl⟩
 have HR := Lib.hid (show ∀ k, rv.ownBlock = some k → k ∈ R from fun k hk => by rw [hR, hk]; simp)
 have HRb := Lib.hid (show b ∉ R from fun e => by rw [hR] at e; simp at e; exact (hnr b e).1 rfl)
 have HRm := Lib.hid (show bm ∉ R from fun e => by rw [hR] at e; simp at e; exact (hnr bm e).2 rfl)
 have HL2 := Lib.hid (show ∀ k ∈ R, k < w.heap.size from fun k hk => by rw [hR] at hk; simp at hk; exact (hown.lt k hk).2)
 have HRT := Lib.hid (show ∀ k ∈ R, rv.ownBlock = some k from fun k hk => by rw [hR] at hk; simpa using hk)
 have HREQ := Lib.hid hR
 have HC := Lib.hid (show ∀ wx, TT R w wx → Calls Try.prog 32 #[x] wx (RBV l wx) from fun wx t => clone_bv (hbv.kb t.2) (by omega))
 obtain ⟨A, c, rfl, -⟩ := hbv
 obtain ⟨A0, k0, rfl, -⟩ := own_form hown
 have HO := Lib.hid hown; have HV := Lib.hid hvs; have HM := Lib.hid hmap; have HH := Lib.hid hheld; have HNR := Lib.hid hnr
 have hd := decide_eq_false (show ¬ (65536 : Int) < (l.length : Int) by omega)
 have hd2 := decide_eq_false (show ¬ (1000 : Int) ≤ (N : Int) by omega)
 clear hown hvs hmap hheld hnr hR
 obtain ⟨n, hn⟩ : ∃ n, n = l.length := ⟨_, rfl⟩
 rw [← hn] at HC hd h1 ⊢
 have HLN := Lib.hid hn
 clear hn
 obtain ⟨c0, c1, c2, c3, c4, c5, c6, c7, z, l0⟩ := hx.f8
 go_enter Try.func11, Try.ntmps11
 go_wp2_with fail
 clear c0 c1 c2 c3 c4 c5 c6 c7 z
 go_upto_region 3 with fail
 generalize hW_3 : w.drew = W_3
 refine gen_act ?_
 intro F_ hF_
 have ev0 : F_.eval (.tmp 0) = .pointer (some ⟨b, 0, none⟩) := by rw [← hF_]; rfl
 have ev1 : F_.eval (.tmp 1) = .slice A n c := by rw [← hF_]; rfl
 have hsz_ : ∀ d ∈ ([(16, []), (17, []), (18, [1]), (19, [2]), (20, [3]), (21, []), (22, [5]), (23, [6]), (24, [4, 7]), (25, [0]), (26, [9])] : List (Nat × List Nat)).map (·.1), d < F_.tmps.size := by rw [← hF_]; simp
 have HF_ := Lib.hid hF_; clear hF_
 refine wp_flow_tabGT (T := TT R) (TT.rel _) true hW_3 11 [(16, []), (17, []), (18, [1]), (19, [2]), (20, [3]), (21, []), (22, [5]), (23, [6]), (24, [4, 7]), (25, [0]), (26, [9])] [SC (.pointer (some ⟨b, 0, none⟩)), SC (.pointer (some ⟨b, 0, none⟩)), SC (.pointer (some ⟨b, 0, none⟩)), SC (.pointer (some ⟨b, 2, none⟩)), SC (.slice A0 N k0), SC (.slice A n c), SY l, SOne w.heap.size l, SApp R w.heap.size N S.wait l, SC (.pointer (some ⟨b, 0, none⟩)), SC (.pointer (some ⟨b, 2, none⟩))] [false, false, false, false, false, false, false, false, false, false, false] (by kernel_rfl) (by kernel_rfl) (by kernel_rfl) (by kernel_rfl) (by kernel_rfl) hsz_ 8 ⟨SC.mono _, SC.mono _, SC.mono _, SC.mono _, SC.mono _, SC.mono _, SY.mono _, SOne.mono _ _, SApp.mono _ _ _ _ _, SC.mono _, SC.mono _, trivial⟩ ⟨(fun _ _ _ h _ => h), (fun _ _ _ h _ => h), (fun _ _ _ h _ => h), (fun _ _ _ h _ => h), (fun _ _ _ h _ => h), (fun _ _ _ h _ => h), (fun _ _ _ h hb => BV.kb h hb.2), (SOne.monoT HL2.out), (fun _ _ _ h _ => h), (fun _ _ _ h _ => h), trivial⟩ ?_ ?_
 ·intro kq hkq a wx hB hBb hp hs
  have hBo : TT R w wx := dT hW_3 hB
  have hcase : kq = 0 ∨ kq = 1 ∨ kq = 2 ∨ kq = 3 ∨ kq = 4 ∨ kq = 5 ∨ kq = 6 ∨ kq = 7 ∨ kq = 8 ∨ kq = 9 ∨ kq = 10 := by omega
  rcases hcase with rfl | rfl | rfl | rfl | rfl | rfl | rfl | rfl | rfl | rfl | rfl
  ·clear hp
   exact ⟨_, rfl, .inr ⟨by decide, .inl ⟨wanted_none rfl, op_mv (s := SC _) rfl ((hs 0 rfl).trans ev0)⟩⟩⟩
  ·clear hp
   exact ⟨_, rfl, .inr ⟨by decide, .inl ⟨wanted_none rfl, op_mv (s := SC _) rfl ((hs 0 rfl).trans ev0)⟩⟩⟩
  ·obtain ⟨k1, -⟩ := hp
   exact ⟨_, rfl, .inr ⟨by decide, .inl ⟨wanted_none rfl, op_nil rfl k1⟩⟩⟩
  ·obtain ⟨k1, -⟩ := hp
   exact ⟨_, rfl, .inr ⟨by decide, .inl ⟨wanted_none rfl, fa_link_End_2 rfl k1⟩⟩⟩
  ·obtain ⟨k1, -⟩ := hp
   exact ⟨_, rfl, .inr ⟨by decide, .inl ⟨wanted_none rfl, ld_____uint8 rfl k1 (hx.tc hBo.1 HRb.out) rfl⟩⟩⟩
  ·clear hp
   exact ⟨_, rfl, .inr ⟨by decide, .inl ⟨wanted_none rfl, op_mv (s := SC _) rfl ((hs 1 rfl).trans ev1)⟩⟩⟩
  ·obtain ⟨k1, -⟩ := hp
   exact ⟨_, rfl, .inr ⟨by decide, .inl ⟨wanted_none rfl, Does.ry (f := 32) (call1 rfl (fun _ => by simp [go_sem]) k1) (HC.out wx hBo)⟩⟩⟩
  ·obtain ⟨k1, -⟩ := hp
   exact ⟨_, rfl, .inr ⟨by decide, .inl ⟨wanted_none rfl, op_one rfl k1 hBo.1.size⟩⟩⟩
  ·obtain ⟨k1, k2, -⟩ := hp
   obtain ⟨gr, vr, er, hgr, hr, hv⟩ := k2
   have hBk : Below w.heap.size w wx := dB hW_3 (hBb rfl)
   exact ⟨_, rfl, .inl ⟨rfl, .inl ⟨wanted_none rfl, op_app rfl k1 er (own_below HO.out hBk) (HV.out.kb (.of hBk)) hr hv (by omega) HR.out hBk.size⟩⟩⟩
  ·obtain ⟨k1, -⟩ := hp
   exact ⟨_, rfl, .inr ⟨by decide, .inl ⟨wanted_none rfl, op_nil rfl k1⟩⟩⟩
  ·obtain ⟨k1, -⟩ := hp
   exact ⟨_, rfl, .inr ⟨by decide, .inl ⟨wanted_none rfl, fa_link_End_2 rfl k1⟩⟩⟩
 ·intro val wx hB hsp hdis
  have hBo : TT R w wx := dT hW_3 hB
  obtain ⟨u8, e8⟩ : ∃ v, val 8 = v := ⟨_, rfl⟩
  have h8 := hsp 8 (by omega)
  rw [e8] at h8
  change (SApp R w.heap.size N S.wait l) _ u8 at h8
  have e10 : val 10 = .pointer (some ⟨b, 2, none⟩) := hsp 10 (by omega)
  rw [← HF_.out]
  change wpList _ _ _ [_] _ _
  simp only [puts_consT, puts_nilm, vals, List.map_cons, List.map_nil, Nat.zero_add, Nat.reduceAdd, e8, e10, List.setIfInBounds_toArray, List.set_cons_succ, List.set_cons_zero]
  clear hsp hdis HF_ hsz_ hB hW_3 e8 e10 ev0 ev1
  obtain ⟨us, ho8, hv8, hk8⟩ := h8
  obtain ⟨A8, c8, rfl, -⟩ := own_form ho8
  have hx1 := hx.tc hBo.1 HRb.out
  have HM1 := Lib.hid (map_tc HM.out hBo.1 HRm.out)
  have HH1 := Lib.hid (HH.out.kb hBo.2)
  have HT := Lib.hid hBo
  have HO8 := Lib.hid ho8; have HV8 := Lib.hid hv8; have HK8 := Lib.hid hk8
  clear hBo ho8 hv8 hk8
  obtain ⟨c0, c1, c2, c3, c4, c5, c6, c7, z, l1⟩ := hx1.f8
  go_wp2
  go_ret
  have hkb : KB wx (wx.setCell ⟨b, 2, none⟩ (.slice A8 (N + 1) c8)) := (KB.refl _).set_ hx1 (by decide) _
  obtain ⟨hne2, hnr2⟩ := end_ne hx1 HO8.out HM1.out
  refine ⟨rfl, _, ⟨.slice A8 (N + 1) c8, us, bm, D, hx1.set_ 2 _, ?_, hv2 hkb HV8.out, map_set HM1.out (fun e => hne e.symm) _, HH1.out.kb hkb, rfl⟩, ⟨(HT.out.1.mono ?_).set_ (.inl (by simp)) _, HT.out.2.trans hkb⟩, ?_⟩
  ·have h := row_set HO8.out (p := ⟨b, 2, none⟩) (fun k hk => (hnr2 k hk).1.symm) (.slice A8 (N + 1) c8)
   simpa [HWN.out] using h
  ·intro k hk
   rw [HREQ.out] at hk
   simp only [List.mem_cons]
   exact .inr (.inr hk)
  ·intro x hx
   simp only [List.mem_cons, Option.mem_toList] at hx ⊢
   rcases hx with rfl | rfl | hx
   ·exact .inl (.inl rfl)
   ·exact .inl (.inr (.inl rfl))
   ·rcases HK8.out x hx with h | h
    ·exact .inl (.inr (.inr (HRT.out x h)))
    ·exact .inr h
end Go.Proofs.Ytgdibcgphjmofaa
