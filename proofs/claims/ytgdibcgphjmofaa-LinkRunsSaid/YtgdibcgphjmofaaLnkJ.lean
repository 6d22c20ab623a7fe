/-
 THE WALK of packet.bytes.
-/
import Derived.Test.YtgdibcgphjmofaaLnkI
import Derived.Test.YtgdibcgphjmofaaWalkRDec
namespace Go.Proofs.Ytgdibcgphjmofaa
set_option maxHeartbeats 4000000
open Go.RowKit
set_option linter.unusedVariables false
/-- A row of known cells. -/
def SRow (T : Nat) (cs : List Value) : Sp := fun w v => ∃ g, v = .slice (some ⟨g, 0, none⟩) cs.length cs.length ∧ Bx w g T cs
theorem SRow.mono (T : Nat) (cs : List Value) : Mono (SRow T cs) := fun _ _ _ ⟨g, h1, h2⟩ hb => ⟨g, h1, h2.below hb⟩
/-- A row of two slices of bytes. -/
def SRows2 (l m : List UInt8) : Sp := fun w v => ∃ g A1 c1 A2 c2, v = .slice (some ⟨g, 0, none⟩) 2 2 ∧ Bx w g 33 [.slice A1 l.length c1, .slice A2 m.length c2] ∧ Rd w w.heap.size A1 (W.bc l) ∧ Rd w w.heap.size A2 (W.bc m)
theorem SRows2.mono (l m : List UInt8) : Mono (SRows2 l m) := fun _ _ _ ⟨g, A1, c1, A2, c2, h1, h2, h3, h4⟩ hb => ⟨g, A1, c1, A2, c2, h1, h2.below hb, (h3.below hb (Nat.le_refl _)).mono hb.size, (h4.below hb (Nat.le_refl _)).mono hb.size⟩
section
variable {o : Oper} {a : Act} {wx : World}
theorem op_row2 {T S : Nat} {x y : Operand} {u v : Value} (ho : o.op = .buildSlice S 2 #[(0, x), (1, y)]) (hx : a.eval x = u) (hy : a.eval y = v) (hu : u.cells = #[u]) (hv : v.cells = #[v])
  (hr : (Instr.buildSlice S 2 #[(0, u), (1, v)]).run Try.prog wx = .ok (.slice (some ⟨wx.heap.size, 0, none⟩) 2 2) (wx.alloc (.cells #[u, v] T))) : Does Try.prog o (SRow T [u, v]) false a wx := by
 have h : ∀ ρ : Operand → Value, ρ x = u → ρ y = v → (execOp ρ o).run Try.prog wx = .ok (.value (.slice (some ⟨wx.heap.size, 0, none⟩) 2 2)) (wx.alloc (.cells #[u, v] T)) := by
  intro ρ e1 e2; simp [execOp, ho, e1, e2, hr, Result.andThen]
 exact .inl ⟨_, _, h _ hx hy, (Below.refl _ _).alloc (Nat.le_refl _) _, ⟨_, rfl, Bx.at_ rfl⟩, fun h => by cases h⟩
theorem op_rows2 {S : Nat} {x y : Operand} {l m : List UInt8} (ho : o.op = .buildSlice S 2 #[(0, x), (1, y)]) (hx : SY l wx (a.eval x)) (hy : SY m wx (a.eval y))
  (hr : ∀ A n c A' n' c', (Instr.buildSlice S 2 #[(0, .slice A n c), (1, .slice A' n' c')]).run Try.prog wx = .ok (.slice (some ⟨wx.heap.size, 0, none⟩) 2 2) (wx.alloc (.cells #[.slice A n c, .slice A' n' c'] 33))) : Does Try.prog o (SRows2 l m) false a wx := by
 obtain ⟨A, c, e1, _, _, r1, _⟩ := hx
 obtain ⟨A', c', e2, _, _, r2, _⟩ := hy
 have h : ∀ ρ : Operand → Value, ρ x = .slice A l.length c → ρ y = .slice A' m.length c' → (execOp ρ o).run Try.prog wx = .ok (.value (.slice (some ⟨wx.heap.size, 0, none⟩) 2 2)) (wx.alloc (.cells #[.slice A l.length c, .slice A' m.length c'] 33)) := by
  intro ρ e1 e2; simp [execOp, ho, e1, e2, hr, Result.andThen]
 refine .inl ⟨_, _, h _ e1 e2, (Below.refl _ _).alloc (Nat.le_refl _) _, ⟨_, A, c, A', c', rfl, Bx.at_ rfl, ?_, ?_⟩, fun h => by cases h⟩
 ·exact (r1.alloc (Nat.le_refl _) _).mono (by simp)
 ·exact (r2.alloc (Nat.le_refl _) _).mono (by simp)
end
section
variable {o : Oper} {a : Act} {wx : World} {x : Operand} {g off : Nat}
theorem fa_link_packet_0 (ho : o.op = .fieldAddr 68 x 0) (he : a.eval x = .pointer (some ⟨g, off, none⟩)) : Does Try.prog o (SC (.pointer (some ⟨g, off + 0, none⟩))) false a wx := by
 have h : ∀ ρ : Operand → Value, ρ x = .pointer (some ⟨g, off, none⟩) → (execOp ρ o).run Try.prog wx = .ok (.value (.pointer (some ⟨g, off + 0, none⟩))) wx := by
  intro ρ e; simp [execOp, ho, e, go_sem]
 exact Does.val (h _ he) rfl
theorem fa_link_packet_1 (ho : o.op = .fieldAddr 68 x 1) (he : a.eval x = .pointer (some ⟨g, off, none⟩)) : Does Try.prog o (SC (.pointer (some ⟨g, off + 1, none⟩))) false a wx := by
 have h : ∀ ρ : Operand → Value, ρ x = .pointer (some ⟨g, off, none⟩) → (execOp ρ o).run Try.prog wx = .ok (.value (.pointer (some ⟨g, off + 1, none⟩))) wx := by
  intro ρ e; simp [execOp, ho, e, go_sem]
 exact Does.val (h _ he) rfl
theorem fa_link_packet_2 (ho : o.op = .fieldAddr 68 x 2) (he : a.eval x = .pointer (some ⟨g, off, none⟩)) : Does Try.prog o (SC (.pointer (some ⟨g, off + 2, none⟩))) false a wx := by
 have h : ∀ ρ : Operand → Value, ρ x = .pointer (some ⟨g, off, none⟩) → (execOp ρ o).run Try.prog wx = .ok (.value (.pointer (some ⟨g, off + 2, none⟩))) wx := by
  intro ρ e; simp [execOp, ho, e, go_sem]
 exact Does.val (h _ he) rfl
theorem ld___uint8 {T : Nat} {l : List Value} {v0 : Value} (ho : o.op = .load 33 x) (he : a.eval x = .pointer (some ⟨g, off, none⟩)) (hx : Bx wx g T l) (h0 : l[off]? = some v0) : Does Try.prog o (SC (v0)) false a wx := by
 have c0 := hx.cell h0
 have h : ∀ ρ : Operand → Value, ρ x = .pointer (some ⟨g, off, none⟩) → (execOp ρ o).run Try.prog wx = .ok (.value (v0)) wx := by
  intro ρ e; simp [execOp, ho, e, go_sem, c0]
 exact Does.val (h _ he) rfl
theorem ld_int {T : Nat} {l : List Value} {v0 : Value} (ho : o.op = .load 3 x) (he : a.eval x = .pointer (some ⟨g, off, none⟩)) (hx : Bx wx g T l) (h0 : l[off]? = some v0) : Does Try.prog o (SC (v0)) false a wx := by
 have c0 := hx.cell h0
 have h : ∀ ρ : Operand → Value, ρ x = .pointer (some ⟨g, off, none⟩) → (execOp ρ o).run Try.prog wx = .ok (.value (v0)) wx := by
  intro ρ e; simp [execOp, ho, e, go_sem, c0]
 exact Does.val (h _ he) rfl
end
theorem ints2 (p q : Int) (g : Nat) (w : World) (hr : Bx w g 3 [.int .i64 p, .int .i64 q]) (hp : W.Is64 p) (hq : W.Is64 q) : Calls Try.prog 26 #[.slice (some ⟨g, 0, none⟩) 2 2] w (Mk 5 1 (W.bc (W.encI [p, q])) (W.encI [p, q]).length w) := by
 refine wints_any [p, q] (some ⟨g, 0, none⟩) 2 2 w.heap.size w (fun _ => ⟨g, 0, rfl, hr.lt, fun j u hu => ?_⟩) (Nat.le_refl _) rfl ?_ (by simp) ?_
 ·rw [Nat.zero_add]; exact hr.cell hu
 ·intro x hx
  simp at hx
  rcases hx with rfl | rfl
  ·exact hp
  ·exact hq
 ·have h1 := W.enc_le p; have h2 := W.enc_le q; have h3 := W.enc_le (([p, q].length : Nat) : Int)
  simp only [W.encI, List.length_append, List.flatMap_cons, List.flatMap_nil, List.length_nil]
  omega
/-- A packet's bytes. -/
def K.pk (p q : Int) (l : List UInt8) : List UInt8 := W.encI [p, q] ++ W.encB l
set_option maxRecDepth 100000 in
theorem pbytes_any (p q : Int) (A : Option Addr) (c L : Nat) (l : List UInt8) (w : World) (hr : Rd w L A (W.bc l)) (hL : L ≤ w.heap.size) (hp64 : W.Is64 p) (hq64 : W.Is64 q) (hlen : l.length ≤ 70368744177664) (hlen2 : (W.encI [p, q]).length + (W.encB l).length ≤ 1000000000000) :
  Calls Try.prog 33 #[.agg #[.int .i64 p, .int .i64 q, .slice A l.length c]] w (RBV (K.pk p q l) w) := by
 have HR := Lib.hid hr; clear hr
 go_enter Try.func33, Try.ntmps33
 go_wp2_with fail
 generalize hW1 : w.alloc (.cells _ 68) = w1
 obtain ⟨hx, k1⟩ := box1 hW1
 have HR1 := Lib.hid (HR.out.below k1 hL)
 have k3 := Lib.hid k1
 have hL1 : L ≤ w1.heap.size := Nat.le_trans hL k1.size
 clear hW1 HR k1
 go_upto_region 1 with fail
 generalize hW_1 : w1.drew = W_1
 refine gen_act ?_
 intro F_ hF_
 have ev1 : F_.eval (.tmp 1) = .pointer (some ⟨w.heap.size, 0, none⟩) := by rw [← hF_]; rfl
 have hsz_ : ∀ d ∈ ([(3, []), (4, [0]), (5, []), (6, [2]), (7, [1, 3]), (8, [4]), (9, []), (10, [6]), (11, [7]), (12, [8]), (13, [5, 9]), (14, [10]), (2, [11])] : List (Nat × List Nat)).map (·.1), d < F_.tmps.size := by rw [← hF_]; simp
 have HF_ := Lib.hid hF_; clear hF_
 refine wp_flow_tab true hW_1 13 [(3, []), (4, [0]), (5, []), (6, [2]), (7, [1, 3]), (8, [4]), (9, []), (10, [6]), (11, [7]), (12, [8]), (13, [5, 9]), (14, [10]), (2, [11])] [SC (.pointer (some ⟨w.heap.size, 0, none⟩)), SC (.int .i64 p), SC (.pointer (some ⟨w.heap.size, 1, none⟩)), SC (.int .i64 q), SRow 3 [.int .i64 p, .int .i64 q], SY (W.encI [p, q]), SC (.pointer (some ⟨w.heap.size, 2, none⟩)), SC (.slice A l.length c), SC (.string ⟨l.toArray⟩), SY (W.encB l), SRows2 (W.encI [p, q]) (W.encB l), SY (W.encI [p, q] ++ W.encB l), SY (W.encI [p, q] ++ W.encB l)] [false, false, false, false, false, false, false, false, false, false, false, false, false] (by kernel_rfl) (by kernel_rfl) (by kernel_rfl) (by kernel_rfl) (by kernel_rfl) hsz_ ⟨SC.mono _, SC.mono _, SC.mono _, SC.mono _, SRow.mono _ _, SY.mono _, SC.mono _, SC.mono _, SC.mono _, SY.mono _, SRows2.mono _ _, SY.mono _, SY.mono _, trivial⟩ ?_ ?_
 ·intro kq hkq a wx hB hp hs
  have hBo : Below w1.heap.size w1 wx := dB hW_1 hB
  have hcase : kq = 0 ∨ kq = 1 ∨ kq = 2 ∨ kq = 3 ∨ kq = 4 ∨ kq = 5 ∨ kq = 6 ∨ kq = 7 ∨ kq = 8 ∨ kq = 9 ∨ kq = 10 ∨ kq = 11 ∨ kq = 12 := by omega
  rcases hcase with rfl | rfl | rfl | rfl | rfl | rfl | rfl | rfl | rfl | rfl | rfl | rfl | rfl
  ·clear hp
   exact ⟨_, rfl, fa_link_packet_0 rfl ((hs 1 rfl).trans ev1)⟩
  ·obtain ⟨k0, -⟩ := hp
   exact ⟨_, rfl, ld_int rfl k0 (hx.below hBo) rfl⟩
  ·clear hp
   exact ⟨_, rfl, fa_link_packet_1 rfl ((hs 1 rfl).trans ev1)⟩
  ·obtain ⟨k0, -⟩ := hp
   exact ⟨_, rfl, ld_int rfl k0 (hx.below hBo) rfl⟩
  ·obtain ⟨k0, k2, -⟩ := hp
   exact ⟨_, rfl, op_row2 (T := 3) (by rfl) k0 k2 rfl rfl (by simp [go_sem])⟩
  ·obtain ⟨k0, -⟩ := hp
   obtain ⟨gr, er, hr⟩ := k0
   exact ⟨_, rfl, Does.ry (f := 26) (call1 rfl (fun _ => by simp [go_sem]) er) ((ints2 p q gr wx hr hp64 hq64).mono fun _ _ h => (RB_.of h).bv)⟩
  ·clear hp
   exact ⟨_, rfl, fa_link_packet_2 rfl ((hs 1 rfl).trans ev1)⟩
  ·obtain ⟨k0, -⟩ := hp
   exact ⟨_, rfl, ld___uint8 rfl k0 (hx.below hBo) rfl⟩
  ·obtain ⟨k0, -⟩ := hp
   have e0 : a.eval (.tmp 10) = .slice A l.length c := k0
   simp [Act.eval] at e0
   exact ⟨_, rfl, Does.val (by simp [execOp, Act.eval, e0, go_sem, run_string_rd (HR1.out.below hBo hL1) l.length c rfl]) rfl⟩
  ·obtain ⟨k0, -⟩ := hp
   exact ⟨_, rfl, Does.ry (f := 27) (call1 rfl (fun _ => by simp [go_sem]) k0) ((wbytes_any ⟨l.toArray⟩ wx (by simpa [ByteArray.size] using hlen)).mono fun _ _ h => (RB_.of h).bv)⟩
  ·obtain ⟨k0, k2, -⟩ := hp
   exact ⟨_, rfl, op_rows2 (by rfl) k0 k2 (by simp [go_sem])⟩
  ·obtain ⟨k0, -⟩ := hp
   obtain ⟨gr, A1, c1, A2, c2, er, hr, r1, r2⟩ := k0
   exact ⟨_, rfl, Does.ry (f := 42) (call1 rfl (fun _ => by simp [go_sem]) er) ((concat_two gr A1 A2 c1 c2 wx.heap.size (W.encI [p, q]) (W.encB l) wx hr r1 r2 (Nat.le_refl _) hlen2).mono fun _ _ h => h.bv)⟩
  ·obtain ⟨k0, -⟩ := hp
   exact ⟨_, rfl, op_as rfl k0⟩
 ·intro val wx hB hsp hdis
  have hBo : Below w1.heap.size w1 wx := dB hW_1 hB
  obtain ⟨A3, c3, e12, h3⟩ := hsp 12 (by omega)
  rw [← HF_.out]
  change wpList _ _ _ [] _ _
  simp only [puts_consT, puts_nilm, vals, List.map_cons, List.map_nil, Nat.zero_add, Nat.reduceAdd, e12, List.setIfInBounds_toArray, List.set_cons_succ, List.set_cons_zero]
  clear hsp hdis HF_ hsz_ hB hW_1 e12 ev1
  have HB := Lib.hid (Blw k3.out hBo); clear hBo k3 HR1 hx
  have H3 := Lib.hid h3; clear h3
  go_wp2
  go_ret
  exact ⟨_, rfl, ⟨A3, c3, rfl, H3.out⟩, HB.out⟩
end Go.Proofs.Ytgdibcgphjmofaa
