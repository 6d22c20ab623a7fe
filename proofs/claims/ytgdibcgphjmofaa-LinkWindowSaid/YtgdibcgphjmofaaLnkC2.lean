/-
 THE WALK of Copy.
-/
import Derived.Test.YtgdibcgphjmofaaLnkT2
import Derived.Maps.RangeWalk
import Derived.Maps.Ext
namespace Go.Proofs.Ytgdibcgphjmofaa
set_option maxHeartbeats 1000000
open Go.RowKit
open Go.Maps
set_option linter.unusedVariables false
/-- A slice lies in a block of Z, if anywhere. -/
def Zb (Z : Nat → Prop) (v : Value) : Prop := ∀ (a : Addr) (n c : Nat), v = .slice (some a) n c → 0 < n → Z a.block
/-- An end without held messages, whose waiting ones lie in blocks of Z. -/
def EndZ (Z : Nat → Prop) (w : World) (b : Nat) (own : List Nat) (S : K.E) : Prop := ∃ rv vs bm D,
 Bx w b 65 [.int .i64 S.win, .int .u64 S.key, rv, .int .i64 S.acked, .int .i64 S.del, .map (some bm), .bool S.owing, .int .i64 S.forged] ∧
 w.ownsRow 0 33 1 rv S.wait.length vs ∧ Vs w vs S.wait ∧ w.ownsMap Try.prog 3 RV bm S.cnt D ∧ HeldIs w D S.held ∧ own = b :: bm :: rv.ownBlock.toList ∧ (∀ v ∈ vs, Zb Z v) ∧ ∀ i, S.held i = none
section
variable {Z : Nat → Prop} {w w' : World} {b : Nat} {own : List Nat} {S : K.E}
theorem EndZ.at_ (h : EndZ Z w b own S) : EndAt w b own S := by
 obtain ⟨rv, vs, bm, D, h1, h2, h3, h4, h5, h6, h7, h8⟩ := h
 exact ⟨rv, vs, bm, D, h1, h2, h3, h4, h5, h6⟩
theorem EndZ.lt (h : EndZ Z w b own S) : ∀ x ∈ own, x < w.heap.size := h.at_.lt
theorem EndZ.new {win key : Int} (h : EndAt w b own (K.E0 win key)) : EndZ Z w b own (K.E0 win key) := by
 obtain ⟨rv, vs, bm, D, h1, h2, h3, h4, h5, h6⟩ := h
 have hv : vs = [] := List.eq_nil_of_length_eq_zero h3.1
 subst hv
 exact ⟨rv, [], bm, D, h1, h2, h3, h4, h5, h6, by simp, fun _ => rfl⟩
theorem BV.far {v : Value} {l : List UInt8} {g i : Nat} (h : BV w v l) (hz : Zb (fun k => k ≠ g) v) (u : Value) : BV (w.setCell ⟨g, i, none⟩ u) v l := by
 obtain ⟨A, c, rfl, h3, h4, h5, h6⟩ := h
 refine ⟨A, c, rfl, h3, h4, fun hn => ?_, fun hn => ?_⟩
 ·obtain ⟨b', o, rfl, hb, hc⟩ := h5 hn
  have hne := hz _ _ _ rfl (by simpa using hn)
  refine ⟨b', o, rfl, by simpa [World.setCell] using hb, fun j x hx => ?_⟩
  exact (World.cell?_of_block (a := ⟨b', o + j, none⟩) (Below.heap_setCell w ⟨g, i, none⟩ u b' hne)).trans (hc j x hx)
 ·obtain ⟨b', o, cs, fr, rfl, hb⟩ := h6 hn
  exact ⟨b', o, cs, fr, rfl, (Below.heap_setCell w ⟨g, i, none⟩ u b' (hz _ _ _ rfl hn)).trans hb⟩
theorem EndZ.keep (h : EndZ Z w b own S) (k : KB w w') (hk : ∀ x ∈ own, w'.heap[x]? = w.heap[x]?) : EndZ Z w' b own S := by
 obtain ⟨rv, vs, bm, D, h1, h2, h3, h4, h5, h6, h7, h8⟩ := h
 subst h6
 refine ⟨rv, vs, bm, D, (hk b (by simp)).trans h1, ?_, h3.kb k, ?_, h5.kb k, rfl, h7, h8⟩
 ·refine ⟨h2.1, ?_⟩
  rcases h2.2 with h | ⟨g, cap, cur, rfl, hb, hg, r⟩
  ·exact .inl h
  ·exact .inr ⟨g, cap, cur, rfl, hb, (hk g (by simp [Value.ownBlock])).trans hg, r⟩
 ·obtain ⟨es, ck, hb, r⟩ := h4
  exact ⟨es, ck, (hk bm (by simp)).trans hb, r⟩
theorem EndZ.below (h : EndZ Z w b own S) (hb : Below w.heap.size w w') : EndZ Z w' b own S := h.keep (.of hb) (fun x hx => hb.block x (h.lt x hx))
/-- A store into a block that holds none of its messages. -/
theorem EndZ.far {g i : Nat} (h : EndZ Z w b own S) (hg : g ∉ own) (hz : ¬ Z g) (u : Value) : EndZ Z (w.setCell ⟨g, i, none⟩ u) b own S := by
 obtain ⟨rv, vs, bm, D, h1, h2, h3, h4, h5, h6, h7, h8⟩ := h
 subst h6
 have hk : ∀ x ∈ b :: bm :: rv.ownBlock.toList, (w.setCell ⟨g, i, none⟩ u).heap[x]? = w.heap[x]? := fun x hx => Below.heap_setCell w ⟨g, i, none⟩ u x (fun e => hg (by rw [← show x = g from e]; exact hx))
 refine ⟨rv, vs, bm, D, (hk b (by simp)).trans h1, ?_, ⟨h3.1, fun j v l hv hl => (h3.2 j v l hv hl).far (fun a n c e hn (hh : a.block = g) => hz (by rw [← hh]; exact h7 v (List.mem_of_getElem? hv) a n c e hn)) u⟩, ?_, ?_, rfl, h7, h8⟩
 ·refine ⟨h2.1, ?_⟩
  rcases h2.2 with h | ⟨g, cap, cur, rfl, hb, hg, r⟩
  ·exact .inl h
  ·exact .inr ⟨g, cap, cur, rfl, hb, (hk g (by simp [Value.ownBlock])).trans hg, r⟩
 ·obtain ⟨es, ck, hb, r⟩ := h4
  exact ⟨es, ck, (hk bm (by simp)).trans hb, r⟩
 ·intro k hk
  have h9 := h5 k hk
  exact ⟨h9.1, fun l hl => by rw [h8] at hl; cases hl⟩
/-- All that lies, lies below the heap's end. -/
theorem EndZ.low (h : EndZ Z w b own S) : EndZ (fun k => k < w.heap.size) w b own S := by
 obtain ⟨rv, vs, bm, D, h1, h2, h3, h4, h5, h6, h7, h8⟩ := h
 refine ⟨rv, vs, bm, D, h1, h2, h3, h4, h5, h6, fun v hv a n c e hn => ?_, h8⟩
 obtain ⟨i, hi⟩ := List.mem_iff_getElem?.1 hv
 have hl := (List.getElem?_eq_some_iff.1 hi).1
 obtain ⟨A, c', e2, _, _, h9, _⟩ := h3.2 i v (S.wait[i]'(by rw [← h3.1]; exact hl)) hi (List.getElem?_eq_getElem _)
 rw [e] at e2
 injection e2 with e3 e4 e5
 obtain ⟨b', o, e6, hb, _⟩ := h9 (by rw [W.bc_length]; omega)
 rw [e6] at e3
 injection e3 with e3
 rw [e3]
 exact hb
end
/-- Bytes in a block of Z. -/
def SYZ (Z : Nat → Prop) (l : List UInt8) : Sp := fun w v => BV w v l ∧ Zb Z v
theorem SYZ.mono (Z : Nat → Prop) (l : List UInt8) : Mono (SYZ Z l) := fun _ _ _ h hb => ⟨BV.below h.1 hb, h.2⟩
/-- A row of one such slice. -/
def SOneZ (Z : Nat → Prop) (B : Nat) (l : List UInt8) : Sp := fun w v => ∃ g u, v = .slice (some ⟨g, 0, none⟩) 1 1 ∧ B ≤ g ∧ Bx w g 33 [u] ∧ BV w u l ∧ Zb Z u
theorem SOneZ.mono (Z : Nat → Prop) (B : Nat) (l : List UInt8) : Mono (SOneZ Z B l) := fun _ _ _ ⟨g, u, h1, h2, h3, h4, h5⟩ hb => ⟨g, u, h1, h2, h3.below hb, h4.below hb, h5⟩
theorem SOneZ.monoT {Z : Nat → Prop} {R : List Nat} {B : Nat} {l : List UInt8} (hR : ∀ k ∈ R, k < B) : MonoT (TT R) (SOneZ Z B l) := fun _ _ _ ⟨g, u, h1, h2, h3, h4, h5⟩ hb => ⟨g, u, h1, h2, h3.tc hb.1 (fun e => by have := hR g e; omega), h4.kb hb.2, h5⟩
/-- A row of messages with one more. -/
def SAppZ (Z : Nat → Prop) (R : List Nat) (B N : Nat) (ls : List (List UInt8)) (l : List UInt8) : Sp := fun w v => ∃ us, w.ownsRow 0 33 1 v (N + 1) us ∧ Vs w us (ls ++ [l]) ∧ (∀ k, v.ownBlock = some k → k ∈ R ∨ B ≤ k) ∧ ∀ u ∈ us, Zb Z u
theorem SAppZ.mono (Z : Nat → Prop) (R : List Nat) (B N : Nat) (ls : List (List UInt8)) (l : List UInt8) : Mono (SAppZ Z R B N ls l) := fun _ _ _ ⟨us, h1, h2, h3, h4⟩ hb => ⟨us, own_below h1 hb, h2.kb (.of hb), h3, h4⟩
section
variable {Z : Nat → Prop} {o : Oper} {a : Act} {wx : World} {x y : Operand}
theorem op_oneZ {S B : Nat} {l : List UInt8} (ho : o.op = .buildSlice S 1 #[(0, x)]) (hx : SYZ Z l wx (a.eval x)) (hB : B ≤ wx.heap.size)
  (hr : ∀ A n c, (Instr.buildSlice S 1 #[(0, .slice A n c)]).run Try.prog wx = .ok (.slice (some ⟨wx.heap.size, 0, none⟩) 1 1) (wx.alloc (.cells #[.slice A n c] 33)) := by intro _ _ _; simp [go_sem]) : Does Try.prog o (SOneZ Z B l) false a wx := by
 obtain ⟨⟨A, c, e1, r⟩, hz⟩ := hx
 have h : ∀ ρ : Operand → Value, ρ x = .slice A l.length c → (execOp ρ o).run Try.prog wx = .ok (.value (.slice (some ⟨wx.heap.size, 0, none⟩) 1 1)) (wx.alloc (.cells #[.slice A l.length c] 33)) := by
  intro ρ e1; simp [execOp, ho, e1, hr, Result.andThen]
 exact .inl ⟨_, _, h _ e1, (Below.refl _ _).alloc (Nat.le_refl _) _, ⟨_, _, rfl, hB, Bx.at_ rfl, BV.alloc ⟨A, c, rfl, r⟩ _, by rw [← e1]; exact hz⟩, fun h => by cases h⟩
theorem op_appZ {R : List Nat} {N g : Nat} {rv u : Value} {vs : List Value} {ls : List (List UInt8)} {l : List UInt8} (ho : o.op = .call { callee := .builtin .append, args := #[x, y], argTypes := #[28, 28] })
  (ex : a.eval x = rv) (ey : a.eval y = .slice (some ⟨g, 0, none⟩) 1 1) (hown : wx.ownsRow 0 33 1 rv N vs) (hv : Vs wx vs ls) (hzv : ∀ v ∈ vs, Zb Z v) (hg : Bx wx g 33 [u]) (hu : BV wx u l) (hz : Zb Z u) (hN : N ≤ 1000000000) (hR : ∀ k, rv.ownBlock = some k → k ∈ R) {B : Nat} (hB : B ≤ wx.heap.size) :
  DoesT (TT R) Try.prog o (SAppZ Z R B N ls l) false a wx := by
 obtain ⟨v', w', r1, r2, r3, r4, r5, r6⟩ := run_app (ty := o.type) (Nat.zero_le _) hown hv hg hu hN
 have h : ∀ ρ : Operand → Value, ρ x = rv → ρ y = .slice (some ⟨g, 0, none⟩) 1 1 → (execOp ρ o).run Try.prog wx = .ok (.value v') w' := by
  intro ρ e1 e2
  unfold execOp
  simp only [ho, resolve, invoke, builtin, Sem.run_bind, Sem.run_pure, Result.andThen_ok, List.map_toArray, List.map_cons, List.map_nil, e1, e2, r1]
 refine .inl ⟨v', w', h _ ex ey, ⟨(Tc.refl R wx).grown r3 (fun k hk => .inl (hR k hk)), r4⟩, ⟨_, r2, r5, fun k hk => by rcases r6 k hk with h | h; exact .inl (hR k h); exact .inr (by omega), fun v hv => ?_⟩, fun h => by cases h⟩
 rcases List.mem_append.1 hv with h | h
 ·exact hzv v h
 ·rw [List.mem_singleton.1 h]; exact hz
end
theorem zb_own {Z : Nat → Prop} {w : World} {base n : Nat} {v : Value} {xs : List Value} (h : w.ownsRow base 5 1 v n xs) (hZ : ∀ k, base ≤ k → Z k) : Zb Z v := fun a n' c e _ => by
 rcases h.2 with ⟨e2, _⟩ | ⟨g, cap, cur, e2, hb, _⟩
 ·rw [e] at e2; cases e2
 ·rw [e] at e2
  injection e2 with e3
  injection e3 with e3
  rw [e3]
  exact hZ g hb
theorem clone_z {Z : Nat → Prop} {w : World} {v : Value} {l : List UInt8} (h : BV w v l) (hl : l.length ≤ 140737488355328) (hZ : ∀ k, w.heap.size ≤ k → Z k) : Calls Try.prog 32 #[v] w fun e w' => ∃ v, e = .returned v ∧ Below w.heap.size w w' ∧ SYZ Z l w' v := by
 obtain ⟨A, c, rfl, h1, h2, h3, _⟩ := h
 cases A with
 | some ad => exact (clone_some ad c _ l w h3 (Nat.le_refl _) h2 hl).mono fun _ _ ⟨v, e, ho, hb⟩ => ⟨v, e, hb, BV.own ho, zb_own ho hZ⟩
 | none =>
  have h0 : l = [] := by
   rcases Nat.eq_zero_or_pos l.length with h | h
   ·exact List.eq_nil_of_length_eq_zero h
   ·obtain ⟨b, o, e1, _⟩ := h3 (by simpa using h)
    cases e1
  subst h0
  exact (clone_nil0 c w).mono fun _ _ ⟨v, e, ho, hb⟩ => ⟨v, e, hb, BV.own ho, zb_own ho hZ⟩
set_option maxRecDepth 100000 in
theorem sendz (Z : Nat → Prop) (b : Nat) (own : List Nat) (S : K.E) (x : Value) (l : List UInt8) (w : World) (h : EndZ Z w b own S) (hbv : BV w x l) (h1 : l.length ≤ 65536) (h2 : S.wait.length < 1000) (hZ : ∀ k, w.heap.size ≤ k → Z k) :
  Calls Try.prog 11 #[.pointer (some ⟨b, 0, none⟩), x] w fun e w' => e = .returned (.int .i64 0) ∧ ∃ own', EndZ Z w' b own' { S with wait := S.wait ++ [l] } ∧ TT own w w' ∧ ∀ x ∈ own', x ∈ own ∨ w.heap.size ≤ x := by
 obtain ⟨rv, vs, bm, D, hx, hown, hvs, hmap, hheld, rfl, hzv, hno⟩ := h
 have HZ := Lib.hid hzv; have HNO := Lib.hid hno
 clear hzv hno
 obtain ⟨N, hN⟩ : ∃ N, N = S.wait.length := ⟨_, rfl⟩
 rw [← hN] at hown h2
 have HWN := Lib.hid hN; clear hN
 obtain ⟨hne, hnr⟩ := end_ne hx hown hmap
 obtain ⟨R, hR⟩ : ∃ R, R = rv.ownBlock.toList := ⟨_, rfl⟩
 have HR := Lib.hid (show ∀ k, rv.ownBlock = some k → k ∈ R from fun k hk => by rw [hR, hk]; simp)
 have HRb := Lib.hid (show b ∉ R from fun e => by rw [hR] at e; simp at e; exact (hnr b e).1 rfl)
 have HRm := Lib.hid (show bm ∉ R from fun e => by rw [hR] at e; simp at e; exact (hnr bm e).2 rfl)
 have HL2 := Lib.hid (show ∀ k ∈ R, k < w.heap.size from fun k hk => by rw [hR] at hk; simp at hk; exact (hown.lt k hk).2)
 have HRT := Lib.hid (show ∀ k ∈ R, rv.ownBlock = some k from fun k hk => by rw [hR] at hk; simpa using hk)
 have HREQ := Lib.hid hR
 have HC := Lib.hid (show ∀ wx, TT R w wx → Calls Try.prog 32 #[x] wx (fun e w' => ∃ v, e = .returned v ∧ Below wx.heap.size wx w' ∧ SYZ Z l w' v) from fun wx t => clone_z (hbv.kb t.2) (by omega) (fun k hk => hZ k (by have := t.1.size; omega)))
 clear hZ
 obtain ⟨A, c, rfl, -⟩ := hbv
 obtain ⟨A0, k0, rfl, -⟩ := own_form hown
 have HO := Lib.hid hown; have HV := Lib.hid hvs; have HM := Lib.hid hmap; have HH := Lib.hid hheld; have HNR := Lib.hid hnr
 have hd := decide_eq_false (show ¬ (65536 : Int) < (l.length : Int) by omega)
 have hd2 := decide_eq_false (show ¬ (1000 : Int) ≤ (N : Int) by omega)
 clear hown hvs hmap hheld hnr hR
 obtain ⟨n, hn⟩ : ∃ n, n = l.length := ⟨_, rfl⟩
 rw [← hn] at HC hd h1 ⊢
 have HLN := Lib.hid hn
 clear hn
 obtain ⟨c0, c1, c2, c3, c4, c5, c6, c7, z, l0⟩ := hx.f8
 go_enter Try.func11, Try.ntmps11
 go_wp2_with fail
 clear c0 c1 c2 c3 c4 c5 c6 c7 z
 go_upto_region 3 with fail
 generalize hW_3 : w.drew = W_3
 refine gen_act ?_
 intro F_ hF_
 have ev0 : F_.eval (.tmp 0) = .pointer (some ⟨b, 0, none⟩) := by rw [← hF_]; rfl
 have ev1 : F_.eval (.tmp 1) = .slice A n c := by rw [← hF_]; rfl
 have hsz_ : ∀ d ∈ ([(16, []), (17, []), (18, [1]), (19, [2]), (20, [3]), (21, []), (22, [5]), (23, [6]), (24, [4, 7]), (25, [0]), (26, [9])] : List (Nat × List Nat)).map (·.1), d < F_.tmps.size := by rw [← hF_]; simp
 have HF_ := Lib.hid hF_; clear hF_
 refine wp_flow_tabGT (T := TT R) (TT.rel _) true hW_3 11 [(16, []), (17, []), (18, [1]), (19, [2]), (20, [3]), (21, []), (22, [5]), (23, [6]), (24, [4, 7]), (25, [0]), (26, [9])] [SC (.pointer (some ⟨b, 0, none⟩)), SC (.pointer (some ⟨b, 0, none⟩)), SC (.pointer (some ⟨b, 0, none⟩)), SC (.pointer (some ⟨b, 2, none⟩)), SC (.slice A0 N k0), SC (.slice A n c), SYZ Z l, SOneZ Z w.heap.size l, SAppZ Z R w.heap.size N S.wait l, SC (.pointer (some ⟨b, 0, none⟩)), SC (.pointer (some ⟨b, 2, none⟩))] [false, false, false, false, false, false, false, false, false, false, false] (by kernel_rfl) (by kernel_rfl) (by kernel_rfl) (by kernel_rfl) (by kernel_rfl) hsz_ 8 ⟨SC.mono _, SC.mono _, SC.mono _, SC.mono _, SC.mono _, SC.mono _, SYZ.mono _ _, SOneZ.mono _ _ _, SAppZ.mono _ _ _ _ _ _, SC.mono _, SC.mono _, trivial⟩ ⟨(fun _ _ _ h _ => h), (fun _ _ _ h _ => h), (fun _ _ _ h _ => h), (fun _ _ _ h _ => h), (fun _ _ _ h _ => h), (fun _ _ _ h _ => h), (fun _ _ _ h hb => ⟨BV.kb h.1 hb.2, h.2⟩), (SOneZ.monoT HL2.out), (fun _ _ _ h _ => h), (fun _ _ _ h _ => h), trivial⟩ ?_ ?_
 ·intro kq hkq a wx hB hBb hp hs
  have hBo : TT R w wx := dT hW_3 hB
  have hcase : kq = 0 ∨ kq = 1 ∨ kq = 2 ∨ kq = 3 ∨ kq = 4 ∨ kq = 5 ∨ kq = 6 ∨ kq = 7 ∨ kq = 8 ∨ kq = 9 ∨ kq = 10 := by omega
  rcases hcase with rfl | rfl | rfl | rfl | rfl | rfl | rfl | rfl | rfl | rfl | rfl
  ·clear hp
   exact ⟨_, rfl, .inr ⟨by decide, .inl ⟨wanted_none rfl, op_mv (s := SC _) rfl ((hs 0 rfl).trans ev0)⟩⟩⟩
  ·clear hp
   exact ⟨_, rfl, .inr ⟨by decide, .inl ⟨wanted_none rfl, op_mv (s := SC _) rfl ((hs 0 rfl).trans ev0)⟩⟩⟩
  ·obtain ⟨k1, -⟩ := hp
   exact ⟨_, rfl, .inr ⟨by decide, .inl ⟨wanted_none rfl, op_nil rfl k1⟩⟩⟩
  ·obtain ⟨k1, -⟩ := hp
   exact ⟨_, rfl, .inr ⟨by decide, .inl ⟨wanted_none rfl, fa_link_End_2 rfl k1⟩⟩⟩
  ·obtain ⟨k1, -⟩ := hp
   exact ⟨_, rfl, .inr ⟨by decide, .inl ⟨wanted_none rfl, ld_____uint8 rfl k1 (hx.tc hBo.1 HRb.out) rfl⟩⟩⟩
  ·clear hp
   exact ⟨_, rfl, .inr ⟨by decide, .inl ⟨wanted_none rfl, op_mv (s := SC _) rfl ((hs 1 rfl).trans ev1)⟩⟩⟩
  ·obtain ⟨k1, -⟩ := hp
   exact ⟨_, rfl, .inr ⟨by decide, .inl ⟨wanted_none rfl, Does.ru (s := SYZ Z l) (f := 32) (call1 rfl (fun _ => by simp [go_sem]) k1) (HC.out wx hBo)⟩⟩⟩
  ·obtain ⟨k1, -⟩ := hp
   exact ⟨_, rfl, .inr ⟨by decide, .inl ⟨wanted_none rfl, op_oneZ rfl k1 hBo.1.size⟩⟩⟩
  ·obtain ⟨k1, k2, -⟩ := hp
   obtain ⟨gr, vr, er, hgr, hr, hv, hz⟩ := k2
   have hBk : Below w.heap.size w wx := dB hW_3 (hBb rfl)
   exact ⟨_, rfl, .inl ⟨rfl, .inl ⟨wanted_none rfl, op_appZ rfl k1 er (own_below HO.out hBk) (HV.out.kb (.of hBk)) HZ.out hr hv hz (by omega) HR.out hBk.size⟩⟩⟩
  ·obtain ⟨k1, -⟩ := hp
   exact ⟨_, rfl, .inr ⟨by decide, .inl ⟨wanted_none rfl, op_nil rfl k1⟩⟩⟩
  ·obtain ⟨k1, -⟩ := hp
   exact ⟨_, rfl, .inr ⟨by decide, .inl ⟨wanted_none rfl, fa_link_End_2 rfl k1⟩⟩⟩
 ·intro val wx hB hsp hdis
  have hBo : TT R w wx := dT hW_3 hB
  have h8 : (SAppZ Z R w.heap.size N S.wait l) wx (val 8) := hsp 8 (by omega)
  generalize e8 : val 8 = u8 at h8
  have e10 : val 10 = .pointer (some ⟨b, 2, none⟩) := hsp 10 (by omega)
  rw [← HF_.out]
  change wpList _ _ _ [_] _ _
  simp only [puts_consT, puts_nilm, vals, List.map_cons, List.map_nil, Nat.zero_add, Nat.reduceAdd, e8, e10, List.setIfInBounds_toArray, List.set_cons_succ, List.set_cons_zero]
  clear hsp hdis HF_ hsz_ hB hW_3 e8 e10 ev0 ev1
  obtain ⟨us, ho8, hv8, hk8, hz8⟩ := h8
  obtain ⟨A8, c8, rfl, -⟩ := own_form ho8
  have hx1 := hx.tc hBo.1 HRb.out
  have HM1 := Lib.hid (map_tc HM.out hBo.1 HRm.out)
  have HH1 := Lib.hid (HH.out.kb hBo.2)
  have HT := Lib.hid hBo
  have HO8 := Lib.hid ho8; have HV8 := Lib.hid hv8; have HK8 := Lib.hid hk8; have HZ8 := Lib.hid hz8
  clear hBo ho8 hv8 hk8 hz8
  obtain ⟨c0, c1, c2, c3, c4, c5, c6, c7, z, l1⟩ := hx1.f8
  go_wp2
  go_ret
  have hkb : KB wx (wx.setCell ⟨b, 2, none⟩ (.slice A8 (N + 1) c8)) := (KB.refl _).set_ hx1 (by decide) _
  obtain ⟨hne2, hnr2⟩ := end_ne hx1 HO8.out HM1.out
  refine ⟨rfl, _, ⟨.slice A8 (N + 1) c8, us, bm, D, hx1.set_ 2 _, ?_, hv2 hkb HV8.out, map_set HM1.out (fun e => hne e.symm) _, HH1.out.kb hkb, rfl, HZ8.out, HNO.out⟩, ⟨(HT.out.1.mono ?_).set_ (.inl (by simp)) _, HT.out.2.trans hkb⟩, ?_⟩
  ·have h := row_set HO8.out (p := ⟨b, 2, none⟩) (fun k hk => (hnr2 k hk).1.symm) (.slice A8 (N + 1) c8)
   simpa [HWN.out] using h
  ·intro k hk
   rw [HREQ.out] at hk
   simp only [List.mem_cons]
   exact .inr (.inr hk)
  ·intro x hx
   simp only [List.mem_cons, Option.mem_toList] at hx ⊢
   rcases hx with rfl | rfl | hx
   ·exact .inl (.inl rfl)
   ·exact .inl (.inr (.inl rfl))
   ·rcases HK8.out x hx with h | h
    ·exact .inl (.inr (.inr (HRT.out x h)))
    ·exact .inr h
end Go.Proofs.Ytgdibcgphjmofaa
namespace Go.Proofs.Ytgdibcgphjmofaa
set_option maxHeartbeats 1000000
open Go.RowKit
open Go.Maps
set_option linter.unusedVariables false
def OwnEach (B : Nat) (w : World) (vs : List Value) (ls : List (List UInt8)) : Prop := ∀ (i : Nat) (u : Value) (l : List UInt8), vs[i]? = some u → ls[i]? = some l → w.ownsRow B 5 1 u l.length (W.bc l)
def ApartV (vs : List Value) : Prop := ∀ (i j : Nat) (u v : Value), vs[i]? = some u → vs[j]? = some v → i ≠ j → ∀ k, u.ownBlock = some k → v.ownBlock ≠ some k
/-- A row of rows of bytes, all of the call's own. -/
def RowZ (B : Nat) (w : World) (v : Value) (ls : List (List UInt8)) : Prop := ∃ vs, w.ownsRow B 33 1 v ls.length vs ∧ OwnEach B w vs ls ∧ ApartV vs
theorem own_kb {B n : Nat} {w w' : World} {v : Value} {xs : List Value} (h : w.ownsRow B 5 1 v n xs) (k : KB w w') : w'.ownsRow B 5 1 v n xs := by
 refine ⟨h.1, ?_⟩
 rcases h.2 with h | ⟨g, cap, cur, rfl, hb, hg, r⟩
 ·exact .inl h
 ·exact .inr ⟨g, cap, cur, rfl, hb, k.2 g _ _ hg, r⟩
section
variable {B : Nat} {w w' : World} {vs : List Value} {ls : List (List UInt8)}
theorem OwnEach.nil (B : Nat) (w : World) : OwnEach B w [] [] := fun i u l h => by simp at h
theorem ApartV.nil : ApartV [] := fun i j u v h => by simp at h
theorem OwnEach.kb (h : OwnEach B w vs ls) (k : KB w w') : OwnEach B w' vs ls := fun i u l h1 h2 => own_kb (h i u l h1 h2) k
theorem OwnEach.toVs (h : OwnEach B w vs ls) (hl : vs.length = ls.length) : Vs w vs ls := ⟨hl, fun i u l h1 h2 => BV.own (h i u l h1 h2)⟩
theorem OwnEach.snoc (h : OwnEach B w vs ls) (hl : vs.length = ls.length) {u : Value} {l : List UInt8} (hu : w.ownsRow B 5 1 u l.length (W.bc l)) : OwnEach B w (vs ++ [u]) (ls ++ [l]) := fun i v m h1 h2 => by
 by_cases hi : i < vs.length
 ·rw [List.getElem?_append_left hi] at h1
  rw [List.getElem?_append_left (by omega)] at h2
  exact h i v m h1 h2
 ·rw [List.getElem?_append_right (by omega)] at h1
  rw [List.getElem?_append_right (by omega)] at h2
  have e1 : i - vs.length = 0 := by
   have := (List.getElem?_eq_some_iff.1 h1).1
   simp at this; omega
  rw [← hl] at h2
  rw [e1] at h1 h2
  simp at h1 h2
  subst h1; subst h2
  exact hu
theorem ApartV.snoc (h : ApartV vs) {u : Value} {n : Nat} (hlt : ∀ v ∈ vs, ∀ k, v.ownBlock = some k → k < n) (hu : ∀ k, u.ownBlock = some k → n ≤ k) : ApartV (vs ++ [u]) := fun i j x y h1 h2 hne k hk e => by
 have key : ∀ (i : Nat) (x : Value), (vs ++ [u])[i]? = some x → (i < vs.length ∧ vs[i]? = some x) ∨ (i = vs.length ∧ x = u) := fun i x h => by
  by_cases hi : i < vs.length
  ·rw [List.getElem?_append_left hi] at h; exact .inl ⟨hi, h⟩
  ·rw [List.getElem?_append_right (by omega)] at h
   have e1 := (List.getElem?_eq_some_iff.1 h).1
   simp at e1
   have e2 : i = vs.length := by omega
   subst e2
   simp at h
   exact .inr ⟨rfl, h.symm⟩
 rcases key i x h1 with ⟨_, a⟩ | ⟨a, rfl⟩
 ·rcases key j y h2 with ⟨_, c⟩ | ⟨c, rfl⟩
  ·exact h i j x y a c hne k hk e
  ·have := hlt x (List.mem_of_getElem? a) k hk; have := hu k e; omega
 ·rcases key j y h2 with ⟨_, c⟩ | ⟨c, rfl⟩
  ·have := hlt y (List.mem_of_getElem? c) k e; have := hu k hk; omega
  ·omega
theorem RowZ.row {v : Value} (h : RowZ B w v ls) : RowV B w v ls := by
 obtain ⟨vs, h1, h2, _⟩ := h
 exact ⟨vs, h1, h2.toVs (by have := h1.1; omega)⟩
theorem EndZ.off {Z : Nat → Prop} {b : Nat} {own : List Nat} {S : K.E} {wx : World} (h : EndZ Z w b own S) (hb : Below w.heap.size w wx) : EndZ Z (wx.setCell ⟨b, 6, none⟩ (.bool false)) b own { S with owing := false } ∧ TT own w (wx.setCell ⟨b, 6, none⟩ (.bool false)) := by
 have h0 := h.below hb
 obtain ⟨rv, vs, bm, D, hx, hown, hvs, hmap, hheld, rfl, hz, hno⟩ := h0
 obtain ⟨hne, hnr⟩ := end_ne hx hown hmap
 have hkb : KB wx (wx.setCell ⟨b, 6, none⟩ (.bool false)) := (KB.refl wx).set_ hx (by decide) _
 exact ⟨⟨rv, vs, bm, D, hx.set_ 6 _, row_set hown (fun k hk => (hnr k hk).1.symm) _, hvs.kb hkb, map_set hmap (fun e => hne e.symm) _, hheld.kb hkb, rfl, hz, hno⟩, (Tc.of hb).set_ (.inl (by simp)) _, (KB.of hb).trans hkb⟩
theorem RowZ.set_ {v : Value} (h : RowZ B w v ls) {b i : Nat} {T : Nat} {cs : List Value} (hb : b < B) (hx : Bx w b T cs) (hT : T ≠ 5) (x : Value) : RowZ B (w.setCell ⟨b, i, none⟩ x) v ls := by
 obtain ⟨vs, h1, h2, h3⟩ := h
 exact ⟨vs, row_set h1 (fun k hk => by have := (h1.lt k hk).1; show k ≠ b; omega) _, h2.kb ((KB.refl w).set_ hx hT _), h3⟩
theorem RowZ.of {v : Value} {k : Nat} (h : w.ownsRow B 33 1 v k vs) (hl : vs.length = ls.length) (ho : OwnEach B w vs ls) (ha : ApartV vs) : RowZ B w v ls := by
 have h1 := h.1
 have h3 : k = ls.length := by omega
 subst h3
 exact ⟨vs, h, ho, ha⟩
end
/-- A row of one row of bytes, both of the region's own. -/
def SOneO (B : Nat) (l : List UInt8) : Sp := fun w v => ∃ g u, v = .slice (some ⟨g, 0, none⟩) 1 1 ∧ B ≤ g ∧ Bx w g 33 [u] ∧ w.ownsRow B 5 1 u l.length (W.bc l)
theorem SOneO.mono (B : Nat) (l : List UInt8) : Mono (SOneO B l) := fun _ _ _ ⟨g, u, h1, h2, h3, h4⟩ hb => ⟨g, u, h1, h2, h3.below hb, own_below h4 hb⟩
theorem op_oneO {o : Oper} {a : Act} {wx : World} {x : Operand} {S B : Nat} {l : List UInt8} (ho : o.op = .buildSlice S 1 #[(0, x)]) (hx : SOwn B l wx (a.eval x)) (hB : B ≤ wx.heap.size)
  (hr : ∀ A n c, (Instr.buildSlice S 1 #[(0, .slice A n c)]).run Try.prog wx = .ok (.slice (some ⟨wx.heap.size, 0, none⟩) 1 1) (wx.alloc (.cells #[.slice A n c] 33)) := by intro _ _ _; simp [go_sem]) : Does Try.prog o (SOneO B l) false a wx := by
 have hx' : wx.ownsRow B 5 1 (a.eval x) l.length (W.bc l) := hx
 obtain ⟨A, c, e1, -⟩ := own_form hx'
 have h : ∀ ρ : Operand → Value, ρ x = .slice A l.length c → (execOp ρ o).run Try.prog wx = .ok (.value (.slice (some ⟨wx.heap.size, 0, none⟩) 1 1)) (wx.alloc (.cells #[.slice A l.length c] 33)) := by
  intro ρ e1; simp [execOp, ho, e1, hr, Result.andThen]
 exact .inl ⟨_, _, h _ e1, (Below.refl _ _).alloc (Nat.le_refl _) _, ⟨_, _, rfl, hB, Bx.at_ rfl, by rw [← e1]; exact own_below hx' ((Below.refl _ _).alloc (Nat.le_refl _) _)⟩, fun h => by cases h⟩
set_option maxRecDepth 100000 in
theorem outz (Z : Nat → Prop) (b : Nat) (own : List Nat) (S : K.E) (w : World) (h : EndZ Z w b own S) (ok : K.ok S) :
  Calls Try.prog 13 #[.pointer (some ⟨b, 0, none⟩)] w fun e w' => ∃ v, e = .returned v ∧ RowZ w.heap.size w' v (K.out S) ∧ EndZ Z w' b own { S with owing := false } ∧ TT own w w' := by
 have HEZ := Lib.hid h
 have hok := ok
 obtain ⟨w1, w2, a1, a2, d1, d2, f1, f2, hn, hl, hcn, hkk⟩ := ok
 have HOK := Lib.hid hok; clear hok
 obtain ⟨rv, vs, bm, D, hx, hown, hvs, hmap, hheld, rfl, hzz, hno⟩ := h
 obtain ⟨N, hN⟩ : ∃ N, N = S.wait.length := ⟨_, rfl⟩
 rw [← hN] at hown hn
 have HWN := Lib.hid hN; clear hN
 obtain ⟨hne, hnr⟩ := end_ne hx hown hmap
 obtain ⟨A0, k0, rfl, hk0, hk1, -⟩ := own_form hown
 clear hzz hno
 obtain ⟨K0, hK0⟩ : ∃ K0, K0 = min N S.win.toNat := ⟨_, rfl⟩
 have hK1 : K0 ≤ N := by omega
 have hK2 : (K0 : Int) ≤ S.win := by omega
 have hK3 : K0 ≤ k0 := by omega
 have hmin : (if S.win < (N : Int) then S.win else (N : Int)) = (K0 : Int) := by split <;> omega
 have HK0 := Lib.hid hK0; clear hK0
 have HO := Lib.hid hown; have HV := Lib.hid hvs
 have HL := Lib.hid hl
 clear hown hvs hmap hheld hnr hl hkk
 unfold maxLen at hk1
 go_enter Try.func13, Try.ntmps13
 go_wp2_with fail
 go_upto_region 2 with fail
 generalize hW_2 : w.drew = W_2
 refine gen_act ?_
 intro F_ hF_
 have ev0 : F_.eval (.tmp 0) = .pointer (some ⟨b, 0, none⟩) := by rw [← hF_]; rfl
 have hsz_ : ∀ d ∈ ([(6, []), (7, [0]), (8, [1]), (9, [2]), (10, []), (11, [4]), (12, [5]), (13, [6]), (14, [7]), (15, []), (16, [9]), (17, [10]), (18, [11]), (19, [8, 12]), (20, [3, 13]), (21, [14]), (22, [])] : List (Nat × List Nat)).map (·.1), d < F_.tmps.size := by rw [← hF_]; simp
 have HF_ := Lib.hid hF_; clear hF_
 refine wp_flow_tab true hW_2 17 [(6, []), (7, [0]), (8, [1]), (9, [2]), (10, []), (11, [4]), (12, [5]), (13, [6]), (14, [7]), (15, []), (16, [9]), (17, [10]), (18, [11]), (19, [8, 12]), (20, [3, 13]), (21, [14]), (22, [])] [SC (.pointer (some ⟨b, 0, none⟩)), SC (.pointer (some ⟨b, 0, none⟩)), SC (.pointer (some ⟨b, 2, none⟩)), SC (.slice A0 N k0), SC (.pointer (some ⟨b, 0, none⟩)), SC (.pointer (some ⟨b, 0, none⟩)), SC (.pointer (some ⟨b, 2, none⟩)), SC (.slice A0 N k0), SC (.int .i64 ((N : Nat) : Int)), SC (.pointer (some ⟨b, 0, none⟩)), SC (.pointer (some ⟨b, 0, none⟩)), SC (.pointer (some ⟨b, 0, none⟩)), SC (.int .i64 S.win), SC (.int .i64 (K0 : Int)), SC (.slice A0 K0 k0), SC (.int .i64 (K0 : Int)), SC (.int .i64 0)] [false, false, false, false, false, false, false, false, false, false, false, false, false, false, false, false, false] (by kernel_rfl) (by kernel_rfl) (by kernel_rfl) (by kernel_rfl) (by kernel_rfl) hsz_ ⟨SC.mono _, SC.mono _, SC.mono _, SC.mono _, SC.mono _, SC.mono _, SC.mono _, SC.mono _, SC.mono _, SC.mono _, SC.mono _, SC.mono _, SC.mono _, SC.mono _, SC.mono _, SC.mono _, SC.mono _, trivial⟩ ?_ ?_
 ·intro kq hkq a wx hB hp hs
  have hBo : Below w.heap.size w wx := dB hW_2 hB
  have hcase : kq = 0 ∨ kq = 1 ∨ kq = 2 ∨ kq = 3 ∨ kq = 4 ∨ kq = 5 ∨ kq = 6 ∨ kq = 7 ∨ kq = 8 ∨ kq = 9 ∨ kq = 10 ∨ kq = 11 ∨ kq = 12 ∨ kq = 13 ∨ kq = 14 ∨ kq = 15 ∨ kq = 16 := by omega
  rcases hcase with rfl | rfl | rfl | rfl | rfl | rfl | rfl | rfl | rfl | rfl | rfl | rfl | rfl | rfl | rfl | rfl | rfl
  ·clear hp
   exact ⟨_, rfl, op_mv (s := SC _) rfl ((hs 0 rfl).trans ev0)⟩
  ·obtain ⟨k2, -⟩ := hp
   exact ⟨_, rfl, op_nil rfl k2⟩
  ·obtain ⟨k2, -⟩ := hp
   exact ⟨_, rfl, fa_link_End_2 rfl k2⟩
  ·obtain ⟨k2, -⟩ := hp
   exact ⟨_, rfl, ld_____uint8 rfl k2 (hx.below hBo) rfl⟩
  ·clear hp
   exact ⟨_, rfl, op_mv (s := SC _) rfl ((hs 0 rfl).trans ev0)⟩
  ·obtain ⟨k2, -⟩ := hp
   exact ⟨_, rfl, op_nil rfl k2⟩
  ·obtain ⟨k2, -⟩ := hp
   exact ⟨_, rfl, fa_link_End_2 rfl k2⟩
  ·obtain ⟨k2, -⟩ := hp
   exact ⟨_, rfl, ld_____uint8 rfl k2 (hx.below hBo) rfl⟩
  ·obtain ⟨k2, -⟩ := hp
   have e0 : a.eval (.tmp 13) = .slice A0 N k0 := k2
   simp [Act.eval] at e0
   exact ⟨_, rfl, Does.val (by simp [execOp, Act.eval, e0, go_sem]) rfl⟩
  ·clear hp
   exact ⟨_, rfl, op_mv (s := SC _) rfl ((hs 0 rfl).trans ev0)⟩
  ·obtain ⟨k2, -⟩ := hp
   exact ⟨_, rfl, op_nil rfl k2⟩
  ·obtain ⟨k2, -⟩ := hp
   exact ⟨_, rfl, fa_link_End_0 rfl k2⟩
  ·obtain ⟨k2, -⟩ := hp
   exact ⟨_, rfl, ld_int rfl k2 (hx.below hBo) rfl⟩
  ·obtain ⟨k2, k4, -⟩ := hp
   have e0 : a.eval (.tmp 14) = .int .i64 ((N : Nat) : Int) := k2
   simp [Act.eval] at e0
   have e1 : a.eval (.tmp 18) = .int .i64 S.win := k4
   simp [Act.eval] at e1
   exact ⟨_, rfl, Does.val (by simp [execOp, Act.eval, e0, e1, go_sem, hmin]) rfl⟩
  ·obtain ⟨k2, k4, -⟩ := hp
   have e0 : a.eval (.tmp 9) = .slice A0 N k0 := k2
   simp [Act.eval] at e0
   have e1 : a.eval (.tmp 19) = .int .i64 (K0 : Int) := k4
   simp [Act.eval] at e1
   exact ⟨_, rfl, Does.val (by simp [execOp, Act.eval, e0, e1, go_sem, hK3]) rfl⟩
  ·obtain ⟨k2, -⟩ := hp
   have e0 : a.eval (.tmp 20) = .slice A0 K0 k0 := k2
   simp [Act.eval] at e0
   exact ⟨_, rfl, Does.val (by simp [execOp, Act.eval, e0, go_sem]) rfl⟩
  ·clear hp
   exact ⟨_, rfl, op_mv (s := SC _) rfl rfl⟩
 ·intro val wx hB hsp hdis
  have hBo : Below w.heap.size w wx := dB hW_2 hB
  have e14 : val 14 = .slice A0 K0 k0 := hsp 14 (by omega)
  have e15 : val 15 = .int .i64 (K0 : Int) := hsp 15 (by omega)
  have e16 : val 16 = .int .i64 0 := hsp 16 (by omega)
  rw [← HF_.out]
  change wpList _ _ _ [] _ _
  simp only [puts_consT, puts_nilm, vals, List.map_cons, List.map_nil, Nat.zero_add, Nat.reduceAdd, e14, e15, e16, List.setIfInBounds_toArray, List.set_cons_succ, List.set_cons_zero]
  clear hsp hdis HF_ hsz_ hB hW_2 e14 e15 e16 ev0
  clear hmin
  obtain ⟨w0, rfl⟩ : ∃ w0 : World, w0 = wx := ⟨_, rfl⟩
  have k8 := Lib.hid hBo; clear hBo
  go_wp2_with fail
  go_loopw [22, 3] (fun s22 s3 wr => ∃ (k : Nat) (us : List Value), k ≤ K0 ∧ s22 = .int .i64 (k : Int) ∧ Hid (wr.ownsRow w.heap.size 33 1 s3 k us) ∧ us.length = k ∧ Hid (OwnEach w.heap.size wr us (K.outs S k)) ∧ Hid (ApartV us) ∧ Hid (Below w.heap.size w wr)) (fun s22 _ _ => (K0 - (intOf s22).toNat))
  case atStart => exact ⟨0, [], by omega, rfl, Lib.hid (World.ownsRow_nil _ _ _ _), rfl, Lib.hid (OwnEach.nil _ _), Lib.hid ApartV.nil, k8⟩
  case round =>
   clear k8
   obtain ⟨k, us, hk, rfl, HU, hul, HVU, HAP, HB⟩ := hrel
   have HUL := Lib.hid hul; clear hul
   have HLS : Hid (us.length = (K.outs S k).length) := Lib.hid (by rw [HUL.out]; simp [K.outs])
   obtain ⟨wo, rfl⟩ : ∃ wo : World, wo = wr := ⟨_, rfl⟩
   obtain ⟨A3, c3, rfl, kd, hm3, -⟩ := own_form HU.out
   unfold maxLen at hm3
   have hge := HB.out.size
   have hxr := hx.below HB.out
   by_cases hlt : k < K0
   ·have hkd := decide_eq_true hlt
    have hkN : k < N := by omega
    obtain ⟨g, k1, hsl, -⟩ := own_pos HO.out (by omega)
    injection hsl with hA _ hk01
    subst hA
    subst hk01
    have hvl : vs.length = N := by have := HO.out.1; omega
    obtain ⟨u5, hu5⟩ : ∃ u, vs[k]? = some u := ⟨vs[k], List.getElem?_eq_getElem (by omega)⟩
    obtain ⟨l5, hl5⟩ : ∃ l, S.wait[k]? = some l := ⟨S.wait[k]'(by have := HWN.out; omega), List.getElem?_eq_getElem _⟩
    have hle5 : l5.length ≤ 65536 := HL.out l5 (List.mem_of_getElem? hl5)
    have hbv5 := ((HV.out).2 k u5 l5 hu5 hl5).below HB.out
    obtain ⟨A5, c5, rfl, k9, hm5, hr5, -⟩ := hbv5
    have f1 : wo.cell? ⟨g, k, none⟩ = some (.slice A5 l5.length c5) := by
     have hg := ((HO.out.lt g rfl)).2
     have h0 := own_cells HO.out k _ hu5
     rw [Addr.add_lit, Nat.zero_add] at h0
     exact (HB.out.cell (p := ⟨g, k, none⟩) hg).trans h0
    have HP := Lib.hid (fun (wx : World) (h : Below wo.heap.size wo wx) => pbytes_any (S.acked + (k : Int) + 1) S.del A5 c5 wo.heap.size l5 wx (hr5.below h (Nat.le_refl _)) h.size (by unfold W.Is64; omega) (by unfold W.Is64; omega) (by omega) (by have := K.pk_sum (S.acked + (k : Int) + 1) S.del l5; omega))
    have HF := Lib.hid (show K.outF S k = K.sealed S.key (K.pk (S.acked + (k : Int) + 1) S.del l5) by unfold K.outF; rw [List.getD_eq_getElem?_getD, hl5]; rfl)
    have hw1 : IntKind.i64.wrap (S.acked + (k : Int)) = S.acked + (k : Int) := by rw [IntKind.wrap_i64]; omega
    have hw2 : IntKind.i64.wrap (S.acked + (k : Int) + 1) = S.acked + (k : Int) + 1 := by rw [IntKind.wrap_i64]; omega
    have hk4 : (k : Int) < (K0 : Int) := by omega
    clear hr5 hl5 hu5
    obtain ⟨n5, hn5⟩ : ∃ n, n = l5.length := ⟨_, rfl⟩
    rw [← hn5] at f1 hle5 k9 HP
    have HN5 := Lib.hid hn5
    have hle6 := Lib.hid (show l5.length ≤ 65536 by omega)
    clear hn5
    go_wp2_with fail
    clear f1
    go_upto_region 5 with fail
    generalize hW_5 : wo.drew = W_5
    refine gen_act ?_
    intro F_ hF_
    have ev0 : F_.eval (.tmp 0) = .pointer (some ⟨b, 0, none⟩) := by rw [← hF_]; rfl
    have ev3 : F_.eval (.tmp 3) = .slice A3 k c3 := by rw [← hF_]; rfl
    have ev4 : F_.eval (.tmp 4) = .int .i64 (k : Int) := by rw [← hF_]; rfl
    have ev5 : F_.eval (.tmp 5) = .slice A5 n5 c5 := by rw [← hF_]; rfl
    have hsz_ : ∀ d ∈ ([(27, []), (28, []), (29, [1]), (30, [2]), (31, [3]), (32, []), (33, [5]), (34, [6]), (35, [7]), (36, []), (37, [8, 9]), (38, [10]), (39, []), (40, [12]), (41, [13]), (42, [14]), (43, []), (44, [11, 15, 16]), (45, [17]), (46, [4, 18]), (47, [19])] : List (Nat × List Nat)).map (·.1), d < F_.tmps.size := by rw [← hF_]; simp
    have HF_ := Lib.hid hF_; clear hF_
    refine wp_flow_tab true hW_5 21 [(27, []), (28, []), (29, [1]), (30, [2]), (31, [3]), (32, []), (33, [5]), (34, [6]), (35, [7]), (36, []), (37, [8, 9]), (38, [10]), (39, []), (40, [12]), (41, [13]), (42, [14]), (43, []), (44, [11, 15, 16]), (45, [17]), (46, [4, 18]), (47, [19])] [SC (.slice A3 k c3), SC (.pointer (some ⟨b, 0, none⟩)), SC (.pointer (some ⟨b, 0, none⟩)), SC (.pointer (some ⟨b, 1, none⟩)), SC (.int .u64 S.key), SC (.pointer (some ⟨b, 0, none⟩)), SC (.pointer (some ⟨b, 0, none⟩)), SC (.pointer (some ⟨b, 3, none⟩)), SC (.int .i64 S.acked), SC (.int .i64 (k : Int)), SC (.int .i64 (S.acked + (k : Int))), SC (.int .i64 (S.acked + (k : Int) + 1)), SC (.pointer (some ⟨b, 0, none⟩)), SC (.pointer (some ⟨b, 0, none⟩)), SC (.pointer (some ⟨b, 4, none⟩)), SC (.int .i64 S.del), SC (.slice A5 n5 c5), SC (.agg #[.int .i64 (S.acked + (k : Int) + 1), .int .i64 S.del, .slice A5 n5 c5]), SY (K.pk (S.acked + (k : Int) + 1) S.del l5), SOwn wo.heap.size (K.sealed S.key (K.pk (S.acked + (k : Int) + 1) S.del l5)), SOneO wo.heap.size (K.sealed S.key (K.pk (S.acked + (k : Int) + 1) S.del l5))] [false, false, false, false, false, false, false, false, false, false, false, false, false, false, false, false, false, false, false, false, false] (by kernel_rfl) (by kernel_rfl) (by kernel_rfl) (by kernel_rfl) (by kernel_rfl) hsz_ ⟨SC.mono _, SC.mono _, SC.mono _, SC.mono _, SC.mono _, SC.mono _, SC.mono _, SC.mono _, SC.mono _, SC.mono _, SC.mono _, SC.mono _, SC.mono _, SC.mono _, SC.mono _, SC.mono _, SC.mono _, SC.mono _, SY.mono _, SOwn.mono _ _, SOneO.mono _ _, trivial⟩ ?_ ?_
    ·intro kq hkq a wx hB hp hs
     have hBo : Below wo.heap.size wo wx := dB hW_5 hB
     have hcase : kq = 0 ∨ kq = 1 ∨ kq = 2 ∨ kq = 3 ∨ kq = 4 ∨ kq = 5 ∨ kq = 6 ∨ kq = 7 ∨ kq = 8 ∨ kq = 9 ∨ kq = 10 ∨ kq = 11 ∨ kq = 12 ∨ kq = 13 ∨ kq = 14 ∨ kq = 15 ∨ kq = 16 ∨ kq = 17 ∨ kq = 18 ∨ kq = 19 ∨ kq = 20 := by omega
     rcases hcase with rfl | rfl | rfl | rfl | rfl | rfl | rfl | rfl | rfl | rfl | rfl | rfl | rfl | rfl | rfl | rfl | rfl | rfl | rfl | rfl | rfl
     ·clear hp
      exact ⟨_, rfl, op_mv (s := SC _) rfl ((hs 3 rfl).trans ev3)⟩
     ·clear hp
      exact ⟨_, rfl, op_mv (s := SC _) rfl ((hs 0 rfl).trans ev0)⟩
     ·obtain ⟨k2, -⟩ := hp
      exact ⟨_, rfl, op_nil rfl k2⟩
     ·obtain ⟨k2, -⟩ := hp
      exact ⟨_, rfl, fa_link_End_1 rfl k2⟩
     ·obtain ⟨k2, -⟩ := hp
      exact ⟨_, rfl, ld_uint64 rfl k2 (hxr.below hBo) rfl⟩
     ·clear hp
      exact ⟨_, rfl, op_mv (s := SC _) rfl ((hs 0 rfl).trans ev0)⟩
     ·obtain ⟨k2, -⟩ := hp
      exact ⟨_, rfl, op_nil rfl k2⟩
     ·obtain ⟨k2, -⟩ := hp
      exact ⟨_, rfl, fa_link_End_3 rfl k2⟩
     ·obtain ⟨k2, -⟩ := hp
      exact ⟨_, rfl, ld_int rfl k2 (hxr.below hBo) rfl⟩
     ·clear hp
      exact ⟨_, rfl, op_mv (s := SC _) rfl ((hs 4 rfl).trans ev4)⟩
     ·obtain ⟨k2, k4, -⟩ := hp
      have e0 : a.eval (.tmp 35) = .int .i64 S.acked := k2
      simp [Act.eval] at e0
      have e1 : a.eval (.tmp 36) = .int .i64 (k : Int) := k4
      simp [Act.eval] at e1
      exact ⟨_, rfl, Does.val (by simp [execOp, Act.eval, e0, e1, go_sem, hw1]) rfl⟩
     ·obtain ⟨k2, -⟩ := hp
      have e0 : a.eval (.tmp 37) = .int .i64 (S.acked + (k : Int)) := k2
      simp [Act.eval] at e0
      exact ⟨_, rfl, Does.val (by simp [execOp, Act.eval, e0, go_sem, hw2]) rfl⟩
     ·clear hp
      exact ⟨_, rfl, op_mv (s := SC _) rfl ((hs 0 rfl).trans ev0)⟩
     ·obtain ⟨k2, -⟩ := hp
      exact ⟨_, rfl, op_nil rfl k2⟩
     ·obtain ⟨k2, -⟩ := hp
      exact ⟨_, rfl, fa_link_End_4 rfl k2⟩
     ·obtain ⟨k2, -⟩ := hp
      exact ⟨_, rfl, ld_int rfl k2 (hxr.below hBo) rfl⟩
     ·clear hp
      exact ⟨_, rfl, op_mv (s := SC _) rfl ((hs 5 rfl).trans ev5)⟩
     ·obtain ⟨k2, k4, ka, -⟩ := hp
      have e0 : a.eval (.tmp 38) = .int .i64 (S.acked + (k : Int) + 1) := k2
      simp [Act.eval] at e0
      have e1 : a.eval (.tmp 42) = .int .i64 S.del := k4
      simp [Act.eval] at e1
      have e2 : a.eval (.tmp 43) = .slice A5 n5 c5 := ka
      simp [Act.eval] at e2
      exact ⟨_, rfl, Does.val (by simp [execOp, Act.eval, e0, e1, e2, go_sem]) rfl⟩
     ·obtain ⟨k2, -⟩ := hp
      exact ⟨_, rfl, Does.ry (f := 33) (call1 rfl (fun _ => by simp [go_sem]) k2) (HP.out wx hBo)⟩
     ·obtain ⟨k2, k4, -⟩ := hp
      obtain ⟨A9, c9, e9, k6, hm9, hr9, -⟩ := k4
      exact ⟨_, rfl, Does.ro (f := 24) (call2 rfl (fun _ => by simp [go_sem]) k2 e9) (lseal_any S.key A9 c9 wx.heap.size (K.pk (S.acked + (k : Int) + 1) S.del l5) wx hr9 (Nat.le_refl _) k6 hm9 (K.pk_len _ _ _ hle6.out)) hBo.size⟩
     ·obtain ⟨k2, -⟩ := hp
      exact ⟨_, rfl, op_oneO rfl k2 hBo.size⟩
    ·intro val wx hB hsp hdis
     have hBo : Below wo.heap.size wo wx := dB hW_5 hB
     have e0 : val 0 = .slice A3 k c3 := hsp 0 (by omega)
     have h20 : (SOneO wo.heap.size (K.sealed S.key (K.pk (S.acked + (k : Int) + 1) S.del l5))) wx (val 20) := hsp 20 (by omega)
     generalize e20 : val 20 = u20 at h20
     rw [← HF_.out]
     change wpList _ _ _ [_, _] _ _
     simp only [puts_consT, puts_nilm, vals, List.map_cons, List.map_nil, Nat.zero_add, Nat.reduceAdd, e0, e20, List.setIfInBounds_toArray, List.set_cons_succ, List.set_cons_zero]
     clear hsp hdis HF_ hsz_ hB hW_5 e0 e20 ev0 ev3 ev4 ev5
     obtain ⟨gr, u6, rfl, hgr, hbr, ho6⟩ := h20
     have hv6 := BV.own ho6
     have HO6 := Lib.hid ho6
     have HBO := Lib.hid hBo
     clear ho6
     have hou := own_below HU.out hBo
     have hvu := (HVU.out.kb (.of hBo)).toVs HLS.out
     have hsz := hBo.size
     have k7 := Lib.hid (Blw HB.out hBo)
     have HOU := Lib.hid hou; have HVU2 := Lib.hid hvu; have HBR := Lib.hid hbr; have HV6 := Lib.hid hv6
     have hbase : w.heap.size ≤ wx.heap.size := by omega
     clear hBo hou hvu hbr hv6 hxr
     go_wp2_with (refine wpList_app rfl (.tmp 27) (.tmp 47) rfl rfl rfl hbase HOU.out HVU2.out HBR.out HV6.out (by omega) ?_)
     intro v7 w7 ho7 hg7 hk7 hv7
     have k5 := Lib.hid (k7.out.grown hg7 hbase (fun k hk => (HOU.out.lt k hk).1))
     have HO7 := Lib.hid ho7; have HV7 := Lib.hid hv7
     have HEA := Lib.hid (((HVU.out.kb (.of HBO.out)).kb hk7).snoc HLS.out (own_kb (own_base HO6.out HB.out.size) hk7))
     have HAP7 := Lib.hid (HAP.out.snoc (n := wo.heap.size) (fun v hv k hk => by
      obtain ⟨i, hi⟩ := List.mem_iff_getElem?.1 hv
      have hl := (List.getElem?_eq_some_iff.1 hi).1
      exact ((HVU.out i v ((K.outs S _)[i]'(by rw [← HLS.out]; exact hl)) hi (List.getElem?_eq_getElem _)).lt k hk).2) (fun k hk => (HO6.out.lt k hk).1))
     clear ho7 hg7 hk7 hv7 HBO
     go_wp2
     refine ⟨⟨k + 1, _, by omega, by go_num, HO7, by rw [List.length_append, HUL.out]; rfl, Lib.hid ?_, HAP7, k5⟩, by simp [intOf]; omega⟩
     rw [K.outs_succ, HF.out]
     exact HEA.out
   ·have hkK : k = K0 := by omega
    subst hkK
    obtain ⟨c0, c1, c2, c3', c4, c5, c6, c7, z, l0⟩ := hxr.f8
    by_cases hz : k = 0
    ·subst hz
     by_cases how : S.owing = true
     ·rw [how] at c6
      have HOW := Lib.hid how; clear how
      go_wp2_with fail
      have HP := Lib.hid (fun (wx : World) => pbytes_any 0 S.del none 0 0 [] wx (Rd.nil _ _ _) (Nat.zero_le _) (by unfold W.Is64; omega) (by unfold W.Is64; omega) (by simp) (by have := K.pk_sum 0 S.del []; simp only [List.length_nil] at this; omega))
      clear c0 c1 c2 c3' c4 c5 c6 c7 z
      rw [HOW.out] at hxr
      go_upto_region 8 with fail
      generalize hW_8 : wo.drew = W_8
      refine gen_act ?_
      intro F_ hF_
      have ev0 : F_.eval (.tmp 0) = .pointer (some ⟨b, 0, none⟩) := by rw [← hF_]; rfl
      have ev3 : F_.eval (.tmp 3) = .slice A3 0 c3 := by rw [← hF_]; rfl
      have hsz_ : ∀ d ∈ ([(59, []), (60, []), (61, [1]), (62, [2]), (63, [3]), (64, []), (65, [5]), (66, [6]), (67, [7]), (68, [8]), (69, [9]), (70, [4, 10]), (71, [11])] : List (Nat × List Nat)).map (·.1), d < F_.tmps.size := by rw [← hF_]; simp
      have HF_ := Lib.hid hF_; clear hF_
      refine wp_flow_tab true hW_8 13 [(59, []), (60, []), (61, [1]), (62, [2]), (63, [3]), (64, []), (65, [5]), (66, [6]), (67, [7]), (68, [8]), (69, [9]), (70, [4, 10]), (71, [11])] [SC (.slice A3 0 c3), SC (.pointer (some ⟨b, 0, none⟩)), SC (.pointer (some ⟨b, 0, none⟩)), SC (.pointer (some ⟨b, 1, none⟩)), SC (.int .u64 S.key), SC (.pointer (some ⟨b, 0, none⟩)), SC (.pointer (some ⟨b, 0, none⟩)), SC (.pointer (some ⟨b, 4, none⟩)), SC (.int .i64 S.del), SC (.agg #[.int .i64 0, .int .i64 S.del, .slice none 0 0]), SY (K.pk 0 S.del []), SOwn wo.heap.size (K.sealed S.key (K.pk 0 S.del [])), SOneO wo.heap.size (K.sealed S.key (K.pk 0 S.del []))] [false, false, false, false, false, false, false, false, false, false, false, false, false] (by kernel_rfl) (by kernel_rfl) (by kernel_rfl) (by kernel_rfl) (by kernel_rfl) hsz_ ⟨SC.mono _, SC.mono _, SC.mono _, SC.mono _, SC.mono _, SC.mono _, SC.mono _, SC.mono _, SC.mono _, SC.mono _, SY.mono _, SOwn.mono _ _, SOneO.mono _ _, trivial⟩ ?_ ?_
      ·intro kq hkq a wx hB hp hs
       have hBo : Below wo.heap.size wo wx := dB hW_8 hB
       have hcase : kq = 0 ∨ kq = 1 ∨ kq = 2 ∨ kq = 3 ∨ kq = 4 ∨ kq = 5 ∨ kq = 6 ∨ kq = 7 ∨ kq = 8 ∨ kq = 9 ∨ kq = 10 ∨ kq = 11 ∨ kq = 12 := by omega
       rcases hcase with rfl | rfl | rfl | rfl | rfl | rfl | rfl | rfl | rfl | rfl | rfl | rfl | rfl
       ·clear hp
        exact ⟨_, rfl, op_mv (s := SC _) rfl ((hs 3 rfl).trans ev3)⟩
       ·clear hp
        exact ⟨_, rfl, op_mv (s := SC _) rfl ((hs 0 rfl).trans ev0)⟩
       ·obtain ⟨k2, -⟩ := hp
        exact ⟨_, rfl, op_nil rfl k2⟩
       ·obtain ⟨k2, -⟩ := hp
        exact ⟨_, rfl, fa_link_End_1 rfl k2⟩
       ·obtain ⟨k2, -⟩ := hp
        exact ⟨_, rfl, ld_uint64 rfl k2 (hxr.below hBo) rfl⟩
       ·clear hp
        exact ⟨_, rfl, op_mv (s := SC _) rfl ((hs 0 rfl).trans ev0)⟩
       ·obtain ⟨k2, -⟩ := hp
        exact ⟨_, rfl, op_nil rfl k2⟩
       ·obtain ⟨k2, -⟩ := hp
        exact ⟨_, rfl, fa_link_End_4 rfl k2⟩
       ·obtain ⟨k2, -⟩ := hp
        exact ⟨_, rfl, ld_int rfl k2 (hxr.below hBo) rfl⟩
       ·obtain ⟨k2, -⟩ := hp
        have e0 : a.eval (.tmp 67) = .int .i64 S.del := k2
        simp [Act.eval] at e0
        exact ⟨_, rfl, Does.val (by simp [execOp, Act.eval, e0, go_sem]) rfl⟩
       ·obtain ⟨k2, -⟩ := hp
        exact ⟨_, rfl, Does.ry (f := 33) (call1 rfl (fun _ => by simp [go_sem]) k2) (HP.out wx)⟩
       ·obtain ⟨k2, k4, -⟩ := hp
        obtain ⟨A9, c9, e9, k6, hm9, hr9, -⟩ := k4
        exact ⟨_, rfl, Does.ro (f := 24) (call2 rfl (fun _ => by simp [go_sem]) k2 e9) (lseal_any S.key A9 c9 wx.heap.size (K.pk 0 S.del []) wx hr9 (Nat.le_refl _) k6 hm9 (K.pk_len _ _ _ (by simp))) hBo.size⟩
       ·obtain ⟨k2, -⟩ := hp
        exact ⟨_, rfl, op_oneO rfl k2 hBo.size⟩
      ·intro val wx hB hsp hdis
       have hBo : Below wo.heap.size wo wx := dB hW_8 hB
       have e0 : val 0 = .slice A3 0 c3 := hsp 0 (by omega)
       have h12 : (SOneO wo.heap.size (K.sealed S.key (K.pk 0 S.del []))) wx (val 12) := hsp 12 (by omega)
       generalize e12 : val 12 = u12 at h12
       rw [← HF_.out]
       change wpList _ _ _ [_, _] _ _
       simp only [puts_consT, puts_nilm, vals, List.map_cons, List.map_nil, Nat.zero_add, Nat.reduceAdd, e0, e12, List.setIfInBounds_toArray, List.set_cons_succ, List.set_cons_zero]
       clear hsp hdis HF_ hsz_ hB hW_8 e0 e12 ev0 ev3
       obtain ⟨gr, u6, rfl, hgr, hbr, ho6⟩ := h12
       have hv6 := BV.own ho6
       have HO6 := Lib.hid ho6
       have HBO := Lib.hid hBo
       clear ho6
       have hou := own_below HU.out hBo
       have hvu := (HVU.out.kb (.of hBo)).toVs HLS.out
       have hsz := hBo.size
       have k7 := Lib.hid (Blw HB.out hBo)
       have HOU := Lib.hid hou; have HVU2 := Lib.hid hvu; have HBR := Lib.hid hbr; have HV6 := Lib.hid hv6
       have hbase : w.heap.size ≤ wx.heap.size := by omega
       clear hBo hou hvu hbr hv6 hxr
       go_wp2_with (refine wpList_app rfl (.tmp 59) (.tmp 71) rfl rfl rfl hbase HOU.out HVU2.out HBR.out HV6.out (by omega) ?_)
       intro v7 w7 ho7 hg7 hk7 hv7
       have k5 := Lib.hid (k7.out.grown hg7 hbase (fun k hk => (HOU.out.lt k hk).1))
       have HO7 := Lib.hid ho7; have HV7 := Lib.hid hv7
       have HEA := Lib.hid (((HVU.out.kb (.of HBO.out)).kb hk7).snoc HLS.out (own_kb (own_base HO6.out HB.out.size) hk7))
       have HAP7 := Lib.hid (HAP.out.snoc (n := wo.heap.size) (fun v hv k hk => by
        obtain ⟨i, hi⟩ := List.mem_iff_getElem?.1 hv
        have hl := (List.getElem?_eq_some_iff.1 hi).1
        exact ((HVU.out i v ((K.outs S _)[i]'(by rw [← HLS.out]; exact hl)) hi (List.getElem?_eq_getElem _)).lt k hk).2) (fun k hk => (HO6.out.lt k hk).1))
       have HLL := Lib.hid hv7.1
       have hxr := hx.below k5.out
       obtain ⟨A7, c8, rfl, -⟩ := own_form ho7
       obtain ⟨c0, c1, c2, c3', c4, c5, c6, c7, z, l0⟩ := hxr.f8
       clear ho7 hg7 hk7 hv7
       go_wp2
       go_ret
       rw [K.out_none HWN.out HK0.out HOW.out]
       exact ⟨_, rfl, (RowZ.of HO7.out HLL.out HEA.out HAP7.out).set_ hx.lt (hx.below k5.out) (by decide) _, (HEZ.out.off k5.out).1, (HEZ.out.off k5.out).2⟩
     ·have how2 : S.owing = false := by simpa using how
      rw [how2] at c6
      have HOW := Lib.hid how2; clear how how2
      go_wp2
      go_ret
      rw [K.out_some HWN.out HK0.out (.inr HOW.out)]
      exact ⟨_, rfl, (RowZ.of HU.out HLS.out HVU.out HAP.out).set_ hx.lt (hx.below HB.out) (by decide) _, (HEZ.out.off HB.out).1, (HEZ.out.off HB.out).2⟩
    ·have hz2 : ((k : Int) == 0) = false := beq_eq_false_iff_ne.2 (by omega)
     have HZ := Lib.hid hz; clear hz
     go_wp2
     go_ret
     rw [K.out_some HWN.out HK0.out (.inl HZ.out)]
     exact ⟨_, rfl, (RowZ.of HU.out HLS.out HVU.out HAP.out).set_ hx.lt (hx.below HB.out) (by decide) _, (HEZ.out.off HB.out).1, (HEZ.out.off HB.out).2⟩
end Go.Proofs.Ytgdibcgphjmofaa
namespace Go.Proofs.Ytgdibcgphjmofaa
set_option maxHeartbeats 2000000
open Go.RowKit
open Go.Maps
set_option linter.unusedVariables false
section
variable {B : Nat} {w w' : World} {row : Option Nat}
theorem Bx.keptC {g T : Nat} {l : List Value} (h : Bx w g T l) (hg : w.grownBy w' row) (hne : some g ≠ row) : Bx w' g T l := (hg.block g h.lt hne).trans h
theorem own_keptC {v : Value} {e n : Nat} {xs : List Value} (h : w.ownsRow B e 1 v n xs) (hg : w.grownBy w' row) (hne : ∀ k, v.ownBlock = some k → some k ≠ row) : w'.ownsRow B e 1 v n xs := by
 have hl := h.lt
 refine ⟨h.1, ?_⟩
 rcases h.2 with h | ⟨g, cap, cur, rfl, hb, hgg, r⟩
 ·exact .inl h
 ·exact .inr ⟨g, cap, cur, rfl, hb, (hg.block g (hl g rfl).2 (hne g rfl)).trans hgg, r⟩
theorem map_keptC {bm n : Nat} {D : DataW Value} (h : w.ownsMap Try.prog 3 RV bm n D) (hg : w.grownBy w' row) (hne : some bm ≠ row) : w'.ownsMap Try.prog 3 RV bm n D := by
 have hl := h.lt
 obtain ⟨es, ck, h1, h2⟩ := h
 exact ⟨es, ck, (hg.block bm hl hne).trans h1, h2⟩
theorem map_more {bm n m : Nat} {D : DataW Value} (h : w.ownsMap Try.prog 3 RV bm n D) (hn : n ≤ m) : w.ownsMap Try.prog 3 RV bm m D := by
 obtain ⟨es, ck, h1, F, h2, h3⟩ := h
 exact ⟨es, ck, h1, F, Nat.le_trans h2 hn, h3⟩
end
/-- What returns a row of its own. -/
def RCl (n : Nat) (vs : List Value) (w : World) (e : Ending) (w' : World) : Prop := ∃ v, e = .returned v ∧ w'.ownsRow w.heap.size 33 1 v n vs ∧ Below w.heap.size w w'
set_option maxRecDepth 100000 in
theorem clone_rows0 (w : World) : Calls Try.prog 44 #[.slice none 0 0] w (RCl 0 [] w) := by
 have hq := Lib.run_eql_slice_nil (P := Try.prog) w 28 33 none 0 0 0 0 Try.underlying28
 simp only [Option.isNone] at hq
 go_enter Try.func44, Try.ntmps44
 go_wp2
 go_ret
 exact ⟨_, rfl, World.ownsRow_nil _ _ _ _, Below.refl _ _⟩
set_option maxRecDepth 100000 in
theorem clone_rows1 (ad : Addr) (N c B : Nat) (vs : List Value) (w : World) (hr : Rd w B (some ad) vs) (hN : vs.length = N) (h1 : ∀ u ∈ vs, u.oneCell' = true) (hB : B ≤ w.heap.size) (hl : N ≤ 1000000000) :
  Calls Try.prog 44 #[.slice (some ad) N c] w (RCl N vs w) := by
 obtain ⟨i0, hi, hz0, hz1, hz2⟩ := info_parts info_b
 have HR := Lib.hid (hr.alloc (w := w) (o := .cells #[] 33) hB); clear hr
 have hq := Lib.run_eql_slice_nil (P := Try.prog) w 28 33 (some ad) N c 0 0 Try.underlying28
 simp only [Option.isNone] at hq
 have HN := Lib.hid hN; have H1 := Lib.hid h1; clear hN h1
 go_enter Try.func44, Try.ntmps44
 go_wp2_with (at_builtin; refine wpList_append_rd rfl (.tmp 5) (.tmp 6) _ rfl w.heap.size 33 i0 _ 24 Try.underlying28 hi hz0 hz1 hz2 rfl _ _ _ rfl (World.ownsRow_made w #[] 0 (Nat.le_refl _) (by decide) rfl) (some ad) N c B vs rfl HR.out HN.out H1.out (by unfold maxLen; omega) (by omega) (by simp) ?_)
 intro v' w2 hown hgrow
 have hB : Below w.heap.size w w2 := ((Below.refl _ _).alloc (Nat.le_refl _) _).grown hgrow (by simp) (fun k hk => by simp [Value.ownBlock] at hk; omega)
 have HOWN := Lib.hid hown; have HB := Lib.hid hB
 clear hown hB hgrow
 go_wp2
 go_ret
 exact ⟨_, rfl, by simpa using HOWN.out, HB.out⟩
theorem clone_rows {w : World} {rv : Value} {N : Nat} {vs : List Value} {ls : List (List UInt8)} (h : w.ownsRow 0 33 1 rv N vs) (hv : Vs w vs ls) (hN : N ≤ 1000000000) : Calls Try.prog 44 #[rv] w (RCl N vs w) := by
 have h1 := h.1
 obtain ⟨A, c, rfl, h2, h3, h4, -⟩ := own_form h
 cases A with
 | some ad => exact clone_rows1 ad N c _ vs w (Rd.of_own h) (by omega) hv.one (Nat.le_refl _) hN
 | none =>
  obtain ⟨rfl, rfl⟩ := h4 rfl
  have : vs = [] := List.eq_nil_of_length_eq_zero (by omega)
  subst this
  exact clone_rows0 w
set_option maxRecDepth 100000 in
theorem copy_any (b : Nat) (own : List Nat) (S : K.E) (w : World) (h : EndAt w b own S) (hn : S.wait.length ≤ 1000000000) (hc : S.cnt ≤ 1000000000) :
  Calls Try.prog 31 #[.pointer (some ⟨b, 0, none⟩)] w fun e w' => ∃ b' own', e = .returned (.pointer (some ⟨b', 0, none⟩)) ∧ EndAt w' b' own' S ∧ Below w.heap.size w w' ∧ ∀ x ∈ own', w.heap.size ≤ x := by
 obtain ⟨rv, vs, bm, D, hx, hown, hvs, hmap, hheld, rfl⟩ := h
 have HO := Lib.hid hown; have HV := Lib.hid hvs; have HM := Lib.hid hmap; have HH := Lib.hid hheld
 obtain ⟨N, hN⟩ : ∃ N, N = S.wait.length := ⟨_, rfl⟩
 rw [← hN] at HO hn
 have HN := Lib.hid hN
 clear hown hvs hmap hheld hN
 obtain ⟨A0, k0, rfl, -⟩ := own_form HO.out
 obtain ⟨c0, c1, c2, c3, c4, c5, c6, c7, z, l0⟩ := hx.f8
 have hmm := @run_makeMap Try.prog
 go_enter Try.func31, Try.ntmps31
 go_wp2_with fail
 generalize hW1 : w.alloc (.cells _ 65) = w1
 have hx1 : Bx w1 w.heap.size 65 [.int .i64 S.win, .int .u64 S.key, .slice A0 N k0, .int .i64 S.acked, .int .i64 S.del, .map (some bm), .bool S.owing, .int .i64 S.forged] := by rw [← hW1]; exact Bx.at_ rfl
 have k3 : Below w.heap.size w w1 := by rw [← hW1]; exact (Below.refl _ _).alloc (Nat.le_refl _) _
 obtain ⟨b', hb'⟩ : ∃ b', b' = w.heap.size := ⟨_, rfl⟩
 have HB' := Lib.hid hb'
 rw [← hb'] at hx1 ⊢
 have hbb : b < b' := by rw [hb']; exact hx.lt
 have hcl := clone_rows (own_below HO.out k3) (HV.out.kb (.of k3)) hn
 have HCL := Lib.hid hcl; have HX1 := Lib.hid hx1; have k4 := Lib.hid k3; have HX := Lib.hid hx
 clear hW1 hx1 k3 hb' hcl c0 c1 c2 c3 c4 c5 c6 c7 z l0 hx
 refine HCL.out.mono ?_
 rintro e w2 ⟨v2, rfl, ho2, k1⟩
 obtain ⟨A2, k2, rfl, -⟩ := own_form ho2
 have hx2 := HX1.out.below k1
 have hxa := HX.out.below (Blw k4.out k1)
 have HM2 := Lib.hid (map_tc HM.out (Tc.of (Blw k4.out k1)) (R := []) (by simp))
 have HO2 := Lib.hid ho2
 have k8 := Lib.hid (Blw k4.out k1)
 have HX1s : Hid (b' < w1.heap.size) := Lib.hid HX1.out.lt
 have HW12 : Hid (w1.heap.size ≤ w2.heap.size) := Lib.hid k1.size
 have HB2s : Hid (w.heap.size ≤ w.heap.size) := Lib.hid (Nat.le_refl _)
 have hbm : bm ≠ b' := fun e => by have := HM.out.lt; rw [HB'.out] at e; omega
 have HX2 := Lib.hid hx2; have HXA := Lib.hid hxa
 obtain ⟨d0, d1, d2, d3, d4, d5, d6, d7, z2, l2⟩ := hx2.f8
 obtain ⟨c0, c1, c2, c3, c4, c5, c6, c7, z, l0⟩ := hxa.f8
 clear ho2 k1 hx2 hxa HCL HX1 HX k4
 have hbm2 : bm < w2.heap.size := HM2.out.lt
 have hb'2 : b' < w2.heap.size := HX2.out.lt
 have hw2 : w.heap.size ≤ w2.heap.size := k8.out.size
 go_wp2_with (at_range; refine wpList_range_own _ rfl _ 63 rfl 3 33 law_int Try.underlying63 RV bm S.cnt D rfl ((map_set (map_set HM2.out hbm _) hbm _).alloc _) ?_)
 intro w4 hrg4 hg4 hs4
 obtain ⟨bn, hbn⟩ : ∃ bn, bn = w2.heap.size := ⟨_, rfl⟩
 obtain ⟨r0, hr0⟩ : ∃ r0, r0 = w2.heap.size + 1 := ⟨_, rfl⟩
 have hsz3 : (((w2.setCell ⟨b', 2, none⟩ (.slice A2 N k2)).setCell ⟨b', 5, none⟩ (.map (some w2.heap.size))).alloc (.map #[] 0)).heap.size = r0 := by simp [World.setCell, hr0]
 have hx3 : Bx (((w2.setCell ⟨b', 2, none⟩ (.slice A2 N k2)).setCell ⟨b', 5, none⟩ (.map (some w2.heap.size))).alloc (.map #[] 0)) b' 65 [.int .i64 S.win, .int .u64 S.key, .slice A2 N k2, .int .i64 S.acked, .int .i64 S.del, .map (some w2.heap.size), .bool S.owing, .int .i64 S.forged] := ((HX2.out.set_ 2 (.slice A2 N k2)).set_ 5 (.map (some w2.heap.size))).alloc _
 have hm3 : (((w2.setCell ⟨b', 2, none⟩ (.slice A2 N k2)).setCell ⟨b', 5, none⟩ (.map (some w2.heap.size))).alloc (.map #[] 0)).ownsMap Try.prog 3 RV w2.heap.size 0 (.map []) := by
  have h := World.ownsMap_made (H := Value) ((w2.setCell ⟨b', 2, none⟩ (.slice A2 N k2)).setCell ⟨b', 5, none⟩ (.map (some w2.heap.size))) Try.prog 3 RV
  rwa [show ((w2.setCell ⟨b', 2, none⟩ (.slice A2 N k2)).setCell ⟨b', 5, none⟩ (.map (some w2.heap.size))).heap.size = w2.heap.size by simp [World.setCell]] at h
 have hrow : ∀ k, (Value.slice A2 N k2).ownBlock = some k → k ≠ b' := fun k hk => by have := (HO2.out.lt k hk).1; have := HX1s.out; omega
 have ho3 : (((w2.setCell ⟨b', 2, none⟩ (.slice A2 N k2)).setCell ⟨b', 5, none⟩ (.map (some w2.heap.size))).alloc (.map #[] 0)).ownsRow w1.heap.size 33 1 (.slice A2 N k2) N vs := (row_set (row_set HO2.out (p := ⟨b', 2, none⟩) hrow _) (p := ⟨b', 5, none⟩) hrow _).alloc _
 have hbB : w.heap.size ≤ b' := Nat.le_of_eq HB'.out.symm
 have k7 : Below w.heap.size w (((w2.setCell ⟨b', 2, none⟩ (.slice A2 N k2)).setCell ⟨b', 5, none⟩ (.map (some w2.heap.size))).alloc (.map #[] 0)) := ((k8.out.setCell hbB _).setCell hbB _).alloc (by simp [World.setCell]; omega) _
 generalize hW3 : ((w2.setCell ⟨b', 2, none⟩ (.slice A2 N k2)).setCell ⟨b', 5, none⟩ (.map (some w2.heap.size))).alloc (.map #[] 0) = w3 at *
 rw [← hbn] at hx3 hm3
 have HX4 := Lib.hid (hx3.keptC hg4 (by simp))
 have HM4 := Lib.hid (map_keptC hm3 hg4 (by simp))
 have HO4 := Lib.hid (own_keptC ho3 hg4 (by simp))
 have k9 := Lib.hid (k7.grown hg4 k7.size (by simp))
 rw [← hr0] at hrg4 ⊢
 rw [← hbn]
 have HRG4 := Lib.hid hrg4
 have HBN : Hid (bm < bn ∧ b' < bn ∧ r0 = bn + 1 ∧ w1.heap.size ≤ bn ∧ w.heap.size ≤ bn ∧ ∀ k, (Value.slice A2 N k2).ownBlock = some k → k < bn) := Lib.hid ⟨by omega, by omega, by omega, by rw [hbn]; exact HW12.out, by omega, fun k hk => by rw [hbn]; exact (HO2.out.lt k hk).2⟩
 have HSZ : Hid (Maps.size D ≤ S.cnt) := Lib.hid HM.out.size_le
 clear hg4 hs4 hrg4 hsz3 hx3 hm3 ho3 k7 hW3 hbn hr0 hbm2 hb'2 hw2 d0 d1 d2 d3 d4 d5 d6 d7 z2 l2 c0 c1 c2 c3 c4 c5 c6 c7 z l0 hrow
 go_wp2_with fail
 go_loopw [] (fun wr => ∃ (left : Lit → Bool) (cnt m : Nat) (D' : DataW Value), wr.ranges Try.prog 3 RV bm r0 S.cnt D left cnt ∧ Hid (wr.ownsMap Try.prog 3 RV bn m D') ∧ m + cnt ≤ S.cnt ∧ Hid (Agree D' D left) ∧ Hid (Bx wr b' 65 [.int .i64 S.win, .int .u64 S.key, .slice A2 N k2, .int .i64 S.acked, .int .i64 S.del, .map (some bn), .bool S.owing, .int .i64 S.forged]) ∧ Hid (wr.ownsRow w1.heap.size 33 1 (.slice A2 N k2) N vs) ∧ Hid (Below w.heap.size w wr)) (fun wr => wr.rangeLeft bm r0)
 case atStart => exact ⟨_, _, 0, _, HRG4.out, HM4, by have := HSZ.out; omega, Lib.hid (agree_start D), HX4, HO4, k9⟩
 case round =>
  clear HRG4 HM4 HX4 HO4 k9
  obtain ⟨left, cnt, m, D', hrg, HMN, hmc, HAG, HXN, HON, HBNN⟩ := hrel
  go_wp2_with (at_next; refine wpList_next_ranges _ rfl _ rfl 3 law_int RV (Value.int .i64) (fun v : Value => v) (fun key kl hk => by obtain ⟨x, hx, _⟩ := Maps.keyOf_int_inv Try.underlying3 hk; exact ⟨x, hx⟩) (fun v y _ => ⟨v, rfl⟩) bm r0 S.cnt D left cnt rfl hrg ?_ ?_)
  ·intro kd hl0
   have hDD : D' = D := agree_end HAG.out hl0 (HMN.out.canon law_int) (HM.out.canon law_int)
   have HMF : Hid (wr.ownsMap Try.prog 3 RV bn S.cnt D) := Lib.hid (by rw [← hDD]; exact map_more HMN.out (by omega))
   clear hDD hrg
   go_wp2
   go_ret
   refine ⟨b', _, rfl, ⟨.slice A2 N k2, vs, bn, D, HXN.out, ?_, HV.out.kb (.of (HBNN.out.mono HB2s.out)), HMF.out, HH.out.kb (.of (HBNN.out.mono HB2s.out)), rfl⟩, HBNN.out, fun x hx => ?_⟩
   ·rw [← HN.out]; exact own_base HON.out (Nat.zero_le _)
   ·simp only [List.mem_cons, Option.mem_toList] at hx
    rcases hx with rfl | rfl | hx
    ·exact Nat.le_of_eq HB'.out.symm
    ·exact HBN.out.2.2.2.2.1
    ·have := (HON.out.lt x hx).1; have := HX1s.out; have := HB'.out; omega
  ·intro x c kl yd yp w5 cnt5 hkey hlk hv hat hrg5 hlt hg5 hs5 hen
   obtain ⟨x', ex, rfl, hwf⟩ := Maps.keyOf_int_inv Try.underlying3 hkey
   obtain rfl : x = x' := by injection ex
   have hy : yd = .held c := by unfold RV at hv; injection hv with hv; injection hv with hv _; exact hv.symm
   subst hy
   have hx64 : W.Is64 x := is64_of hwf
   have HX5 := Lib.hid (HXN.out.keptC hg5 (fun e => by injection e with e; have := HBN.out; omega))
   have HM5 := Lib.hid (map_keptC HMN.out hg5 (fun e => by injection e with e; have := HBN.out; omega))
   have HO5 := Lib.hid (own_keptC HON.out hg5 (fun k hk e => by injection e with e; have := HBN.out.2.2.2.2.2 k hk; have := HBN.out; omega))
   have ka := Lib.hid (HBNN.out.grown hg5 HBNN.out.size (fun k hk => by injection hk with hk; have := HBN.out; omega))
   have HRG5 := Lib.hid hrg5; have HAT := Lib.hid hat; have HLT := Lib.hid hlt; have HRG := Lib.hid hrg
   obtain ⟨d0, d1, d2, d3, d4, d5, d6, d7, z2, l2⟩ := HX5.out.f8
   clear hg5 hs5 hrg5 hat hlt hv hkey ex hrg hlk
   go_wp2_with (at_mapUpdate; refine wpList_mapUpdate_own _ rfl _ _ _ 63 rfl 3 33 law_int Try.underlying63 RV bn m D' rfl HM5.out (by unfold maxLen; omega) _ _ (.int .i64 x) rfl rfl (hkey64 hx64) (.held _) [] rfl ?_)
   intro w6 hm6 hg6
   have HX6 := Lib.hid (HX5.out.keptC hg6 (fun e => by injection e with e; have := HBN.out; omega))
   have HO6 := Lib.hid (own_keptC HO5.out hg6 (fun k hk e => by injection e with e; have := HBN.out.2.2.2.2.2 k hk; omega))
   have kc := Lib.hid (ka.out.grown hg6 ka.out.size (fun k hk => by injection hk with hk; have := HBN.out; omega))
   have HRG6 := Lib.hid (HRG5.out.kept hg6 (fun e => by injection e with e; have := HBN.out; omega) (fun e => by injection e with e; have := HBN.out; omega))
   have HAG6 := Lib.hid (agree_step HAG.out HM5.out.isMap (law_int.key (hkey64 hx64)) HAT.out)
   have HM6 := Lib.hid hm6
   clear hm6 hg6 hen d0 d1 d2 d3 d4 d5 d6 d7 z2 l2
   go_wp2
   exact ⟨⟨_, cnt5, m + 1, _, HRG6.out, HM6, by have := HLT.out; omega, HAG6, HX6, HO6, kc⟩, by rw [HRG6.out.left_eq, HRG.out.left_eq]; exact HLT.out⟩
end Go.Proofs.Ytgdibcgphjmofaa
