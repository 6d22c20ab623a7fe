/-
 WORDS AND SINGLE OPERATIONS for regions of bytes.
-/
import Derived.Test.YtgdibcgphjmofaaLnkZ
import Derived.Test.YtgdibcgphjmofaaLnkE1
import Derived.Test.YtgdibcgphjmofaaFlowU
namespace Go.Proofs.Ytgdibcgphjmofaa
set_option maxHeartbeats 1000000
open Go.RowKit
set_option linter.unusedVariables false
theorem BV.take {w : World} {A : Option Addr} {n c : Nat} {l : List UInt8} (h : BV w (.slice A n c) l) (k : Nat) (hk : k ≤ l.length) : BV w (.slice A k c) (l.take k) := by
 obtain ⟨A', c', e, h3, h4, h5, h6⟩ := h
 injection e with e1 e2 e3
 subst e1; subst e3
 refine ⟨A, c, by rw [List.length_take, Nat.min_eq_left hk], by rw [List.length_take]; omega, h4, ?_, fun hn => h6 (by rw [List.length_take] at hn; omega)⟩
 rw [show W.bc (l.take k) = (W.bc l).take k from by simp [W.bc, List.map_take]]
 exact h5.take k
/-- What the reference's Open returns. -/
def ROq (r : List UInt8 × Int) (w : World) (e : Ending) (w' : World) : Prop := ∃ v, e = .returned (.tuple #[v, .int .i64 r.2]) ∧ BV w' v r.1 ∧ Below w.heap.size w w'
theorem ropen_short (key : Int) (A : Option Addr) (n c : Nat) (w : World) (hn : n < 8) : Calls Try.prog 30 #[.int .u64 key, .slice A n c] w (ROq ([], 2) w) := by
 have hd : (n : Int) - 8 < 0 := by omega
 go_enter Try.func30, Try.ntmps30
 go_wp2
 go_ret2
 exact ⟨_, rfl, BV.nil _, Below.refl _ _⟩
theorem ropen_long (key : Int) (b o c M : Nat) (l : List UInt8) (w : World) (g : Bool) (r : List UInt8) (hk : 0 ≤ key ∧ key < 18446744073709551616) (hr : r = l.take M) (hbv : BV w (.slice (some ⟨b, o, none⟩) (M + 8) c) l) (hrv : BV w (.slice (some ⟨b, o, none⟩) M c) r) (hM : M ≤ 1000000000000) (hc : M + 8 ≤ c) (hcm : c ≤ maxLen)
  (hg : decide (r ++ K.seal8 (K.hash key r) = l) = g) (q : List UInt8 × Int) (hq : (if g = true then (r, 0) else ([], 9)) = q) :
  Calls Try.prog 30 #[.int .u64 key, .slice (some ⟨b, o, none⟩) (M + 8) c] w (ROq q w) := by
 have HQ := Lib.hid hq; clear hq
 have HS : Hid (Calls Try.prog 17 #[.int .u64 key, .slice (some ⟨b, o, none⟩) M c] w (RB_ (r ++ K.seal8 (K.hash key r)) w)) := by
  obtain ⟨A, c', e, h3, h4, h5, h6⟩ := hrv
  injection e with e1 e2 e3
  subst e1; subst e3
  have h := rseal_rd key (some ⟨b, o, none⟩) c _ r w hk h5 (Nat.le_refl _) h3 h4 (by omega)
  rw [← e2] at h
  exact Lib.hid h
 have HBV := Lib.hid hbv; have HRV := Lib.hid hrv; have HG := Lib.hid hg
 unfold maxLen at hcm
 have hMc : M ≤ c := by omega
 have hM8 : (M : Int) ≤ (M : Int) + 8 := by omega
 have hcM : ¬ c = M := by omega
 have hn : ((M + 8 : Nat) : Int) - 8 = (M : Int) := by omega
 clear hbv hrv hg hr hk
 go_enter Try.func30, Try.ntmps30
 go_wp2_with fail
 refine HS.out.mono ?_
 rintro e w1 ⟨v1, rfl, hown, hb⟩
 have hsm := same_bv (BV.own (l := r ++ K.seal8 (K.hash key r)) hown) (HBV.out.below hb)
 rw [HG.out] at hsm
 have HSM := Lib.hid hsm; have HB := Lib.hid hb
 clear hsm hown hb HS
 go_wp2_with fail
 refine HSM.out.mono ?_
 rintro e w2 ⟨rfl, n, rfl⟩
 cases g
 ·go_wp2
  go_ret2
  obtain rfl : ([], 9) = q := HQ.out
  exact ⟨_, rfl, BV.nil _, bdN HB.out n⟩
 ·go_wp2
  go_ret2
  obtain rfl : (r, 0) = q := HQ.out
  exact ⟨_, rfl, HRV.out.below (bdN HB.out n), bdN HB.out n⟩
theorem ropen_any (key : Int) (x : Value) (l : List UInt8) (w : World) (hk : 0 ≤ key ∧ key < 18446744073709551616) (hbv : BV w x l) (hl : l.length ≤ 1000000000000) :
  Calls Try.prog 30 #[.int .u64 key, x] w (ROq (K.unseal key l) w) := by
 have h0 := hbv
 obtain ⟨A, c, rfl, hc, hm, hr, hty⟩ := hbv
 by_cases h8 : l.length < 8
 ·unfold K.unseal
  rw [if_pos h8]
  exact ropen_short key A l.length c w h8
 ·obtain ⟨b, o, rfl, hb, hcell⟩ := hr (by simp; omega)
  obtain ⟨M, hM⟩ : ∃ M, M = l.length - 8 := ⟨_, rfl⟩
  have hlen : l.length = M + 8 := by omega
  have e : K.unseal key l = if decide (l.take M ++ K.seal8 (K.hash key (l.take M)) = l) = true then (l.take M, 0) else ([], 9) := by
   unfold K.unseal
   rw [if_neg h8, ← hM]
   by_cases hs : K.seal8 (K.hash key (l.take M)) = l.drop M
   ·rw [if_neg (by simpa using hs), if_pos (by rw [hs, List.take_append_drop]; exact decide_eq_true rfl)]
   ·rw [if_pos hs, if_neg]
    intro h
    have h := of_decide_eq_true h
    have h2 := congrArg (List.drop M) h
    rw [List.drop_left' (by rw [List.length_take]; omega)] at h2
    exact hs h2
  rw [e]
  rw [hlen] at h0 hc ⊢
  exact ropen_long key b o c M l w _ _ hk rfl h0 (h0.take M (by omega)) (by omega) hc hm rfl _ rfl
section
variable {w : World} {A : Option Addr} {n c : Nat} {l : List UInt8}
theorem BV.parts (h : BV w (.slice A n c) l) : n = l.length ∧ n ≤ c ∧ c ≤ maxLen ∧ Rd w w.heap.size A (W.bc l) := by
 obtain ⟨A', c', e, h3, h4, h5, h6⟩ := h
 injection e with e1 e2 e3
 subst e1; subst e3
 exact ⟨e2, by omega, h4, h5⟩
theorem few_bv (h : BV w (.slice A n c) l) (k : Nat) (hk : k ≤ 1000000000000) : Calls Try.prog 16 #[.slice A n c, .int .i64 (k : Int)] w (RB_ (l.take k) w) := by
 obtain ⟨rfl, h2, h3, h4⟩ := h.parts
 exact few_any A c _ k l w h4 h2 h3 hk
theorem lseal_bv (key : Int) (h : BV w (.slice A n c) l) (hl : l.length ≤ 900000000000) : Calls Try.prog 24 #[.int .u64 key, .slice A n c] w (RB_ (K.sealed key l) w) := by
 obtain ⟨rfl, h2, h3, h4⟩ := h.parts
 exact lseal_any key A c _ l w h4 (Nat.le_refl _) h2 h3 hl
theorem rseal_bv (key : Int) (hk : 0 ≤ key ∧ key < 18446744073709551616) (h : BV w (.slice A n c) l) (hl : l.length ≤ 1000000000000) : Calls Try.prog 17 #[.int .u64 key, .slice A n c] w (RB_ (K.sealed key l) w) := by
 obtain ⟨rfl, h2, h3, h4⟩ := h.parts
 exact rseal_rd key A c _ l w hk h4 (Nat.le_refl _) h2 h3 hl
theorem open_bv (key : Int) (h : BV w (.slice A n c) l) (hl : l.length ≤ 140737488355328) : Calls Try.prog 25 #[.int .u64 key, .slice A n c] w (ROp (K.unseal key l) w) := by
 obtain ⟨rfl, h2, h3, h4⟩ := h.parts
 exact open_any key A c _ l w h4 (Nat.le_refl _) h2 h3 hl
end
end Go.Proofs.Ytgdibcgphjmofaa
namespace Go.Proofs.Ytgdibcgphjmofaa
open Go.RowKit
open Go.Maps
set_option linter.unusedVariables false
/-- Bytes of the region's own. -/
def SOwn (B : Nat) (l : List UInt8) : Sp := fun w v => w.ownsRow B 5 1 v l.length (W.bc l)
theorem SOwn.mono (B : Nat) (l : List UInt8) : Mono (SOwn B l) := fun _ _ _ h hb => own_below h hb
theorem Does.ro {o : Oper} {a : Act} {wx : World} {f : FuncId} {args : Array Value} {l : List UInt8} {B : Nat} (hr : (execOp a.eval o).run Try.prog wx = .ok (.enter f args) wx) (hc : Calls Try.prog f args wx (RB_ l wx)) (hB : B ≤ wx.heap.size) : Does Try.prog o (SOwn B l) false a wx :=
 .inr ⟨rfl, f, args, hr, hc.mono fun _ _ ⟨v, h1, h2, h3⟩ => ⟨v, h1, h3, own_base h2 hB⟩⟩
theorem op_row1 {o : Oper} {a : Act} {wx : World} {T S : Nat} {x : Operand} {u : Value} (ho : o.op = .buildSlice S 1 #[(0, x)]) (hx : a.eval x = u)
  (hr : (Instr.buildSlice S 1 #[(0, u)]).run Try.prog wx = .ok (.slice (some ⟨wx.heap.size, 0, none⟩) 1 1) (wx.alloc (.cells #[u] T))) : Does Try.prog o (SRow T [u]) false a wx := by
 have h : ∀ ρ : Operand → Value, ρ x = u → (execOp ρ o).run Try.prog wx = .ok (.value (.slice (some ⟨wx.heap.size, 0, none⟩) 1 1)) (wx.alloc (.cells #[u] T)) := by
  intro ρ e1; simp [execOp, ho, e1, hr, Result.andThen]
 exact .inl ⟨_, _, h _ hx, (Below.refl _ _).alloc (Nat.le_refl _) _, ⟨_, rfl, Bx.at_ rfl⟩, fun h => by cases h⟩
/-- append of bytes onto bytes of the region's own. -/
theorem op_bapp {o : Oper} {a : Act} {wx : World} {x y : Operand} {B : Nat} {l m : List UInt8} (ho : o.op = .call { callee := .builtin .append, args := #[x, y], argTypes := #[33, 33] }) (hx : SOwn B l wx (a.eval x)) (hy : BV wx (a.eval y) m) (hB : B ≤ wx.heap.size) (hl : l.length + m.length ≤ 1000000000000) :
  DoesT (TB B) Try.prog o (SOwn B (l ++ m)) false a wx := by
 obtain ⟨i0, hi, hz0, hz1, hz2⟩ := info_parts info_u8
 obtain ⟨A, c, ey, h1, h2, h3, -⟩ := hy
 obtain ⟨rv, ex⟩ : ∃ rv, rv = a.eval x := ⟨_, rfl⟩
 have hx' : wx.ownsRow B 5 1 rv l.length (W.bc l) := by rw [ex]; exact hx
 obtain ⟨v', w', r1, r2, r3⟩ := run_append_rd (P := Try.prog) B 33 o.type 5 i0 _ 1 Try.underlying33 hi hz0 hz1 hz2 rfl rv l.length (W.bc l) hx' A m.length c wx.heap.size (W.bc m) h3 (by simp) (W.bc_oneCell m) (by unfold maxLen; omega) (by omega) hB
 have h : ∀ ρ : Operand → Value, ρ x = rv → ρ y = .slice A m.length c → (execOp ρ o).run Try.prog wx = .ok (.value v') w' := by
  intro ρ e1 e2
  unfold execOp
  simp only [ho, resolve, invoke, builtin, Sem.run_bind, Sem.run_pure, Result.andThen_ok, List.map_toArray, List.map_cons, List.map_nil, e1, e2, r1]
 have hb : Below B wx w' := ((Below.refl wx.heap.size wx).mono hB).grown r3 hB (fun k hk => (hx'.lt k hk).1)
 refine .inl ⟨v', w', h _ ex.symm ey, TB.of hb, ?_, fun h => by cases h⟩
 show w'.ownsRow B 5 1 v' (l ++ m).length (W.bc (l ++ m))
 rw [W.bc_append, List.length_append]
 exact r2
theorem bv_row1 {w : World} {v : Value} {g : Nat} {c : UInt8} (e : v = .slice (some ⟨g, 0, none⟩) 1 1) (h : Bx w g 5 [.int .u8 (c.toNat : Int)]) : BV w v [c] :=
 ⟨_, _, e, Nat.le_refl _, by decide, fun _ => ⟨g, 0, rfl, h.lt, fun j u hu => by rw [Nat.zero_add]; exact h.cell hu⟩, fun _ => ⟨g, 0, _, _, rfl, h⟩⟩
/-- A pair of bytes and an error. -/
def SOpn (r : List UInt8 × Int) : Sp := fun w v => ∃ u, v = .tuple #[u, .int .i64 r.2] ∧ BV w u r.1
theorem SOpn.mono (r : List UInt8 × Int) : Mono (SOpn r) := fun _ _ _ ⟨u, h1, h2⟩ hb => ⟨u, h1, h2.below hb⟩
theorem op_ex0 {o : Oper} {a : Act} {wx : World} {x : Operand} {r : List UInt8 × Int} (ho : o.op = .extract x 0) (h : SOpn r wx (a.eval x)) : Does Try.prog o (SY r.1) false a wx := by
 obtain ⟨u, e, hu⟩ := h
 have : ∀ ρ : Operand → Value, ρ x = .tuple #[u, .int .i64 r.2] → (execOp ρ o).run Try.prog wx = .ok (.value u) wx := by
  intro ρ e; simp [execOp, ho, e, go_sem]
 exact Does.val (this _ e) hu
theorem op_ex1 {o : Oper} {a : Act} {wx : World} {x : Operand} {r : List UInt8 × Int} (ho : o.op = .extract x 1) (h : SOpn r wx (a.eval x)) : Does Try.prog o (SC (.int .i64 r.2)) false a wx := by
 obtain ⟨u, e, hu⟩ := h
 have : ∀ ρ : Operand → Value, ρ x = .tuple #[u, .int .i64 r.2] → (execOp ρ o).run Try.prog wx = .ok (.value (.int .i64 r.2)) wx := by
  intro ρ e; simp [execOp, ho, e, go_sem]
 exact Does.val (this _ e) rfl
theorem Does.ru {o : Oper} {a : Act} {wx : World} {f : FuncId} {args : Array Value} {s : Sp} (hr : (execOp a.eval o).run Try.prog wx = .ok (.enter f args) wx) (hc : Calls Try.prog f args wx fun e w' => ∃ v, e = .returned v ∧ Below wx.heap.size wx w' ∧ s w' v) : Does Try.prog o s false a wx :=
 .inr ⟨rfl, f, args, hr, hc⟩
end Go.Proofs.Ytgdibcgphjmofaa
