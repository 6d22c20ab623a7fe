/-
 THE WALK of LinkProgress.
-/
import Derived.Test.YtgdibcgphjmofaaLnkT2
namespace Go.Proofs.Ytgdibcgphjmofaa
set_option maxHeartbeats 4000000
open Go.RowKit
open Go.Maps
set_option linter.unusedVariables false
theorem two_get {f : Nat → Value} {k : Nat} (h : k < 2) : [f 0, f 1][k]? = some (f k) := by
 match k, h with
 | 0, _ => rfl
 | 1, _ => rfl
def iv (f : Nat → Nat) (k : Nat) : Value := .int .i64 (f k : Int)
theorem iv_set {f : Nat → Nat} {k y : Nat} (h : k < 2) : [iv f 0, iv f 1].set k (.int .i64 (y : Int)) = [iv (K.upd f k y) 0, iv (K.upd f k y) 1] := by
 match k, h with
 | 0, _ => rfl
 | 1, _ => rfl
def pv (f : Nat → Nat) (k : Nat) : Value := .pointer (some ⟨f k, 0, none⟩)
/-- A pair of a value and an error. -/
def STup (Q : Sp) (e : Int) : Sp := fun w v => ∃ u, v = .tuple #[u, .int .i64 e] ∧ Q w u
theorem STup.mono {Q : Sp} (e : Int) (h : Mono Q) : Mono (STup Q e) := fun _ _ _ ⟨u, h1, h2⟩ hb => ⟨u, h1, h _ _ _ h2 hb⟩
section
variable {o : Oper} {a : Act} {wx : World} {x : Operand} {Q : Sp} {e : Int}
theorem op_tx0 (ho : o.op = .extract x 0) (h : STup Q e wx (a.eval x)) : Does Try.prog o Q false a wx := by
 obtain ⟨u, e1, hu⟩ := h
 have : ∀ ρ : Operand → Value, ρ x = .tuple #[u, .int .i64 e] → (execOp ρ o).run Try.prog wx = .ok (.value u) wx := by
  intro ρ e; simp [execOp, ho, e, go_sem]
 exact Does.val (this _ e1) hu
theorem op_tx1 (ho : o.op = .extract x 1) (h : STup Q e wx (a.eval x)) : Does Try.prog o (SC (.int .i64 e)) false a wx := by
 obtain ⟨u, e1, hu⟩ := h
 have : ∀ ρ : Operand → Value, ρ x = .tuple #[u, .int .i64 e] → (execOp ρ o).run Try.prog wx = .ok (.value (.int .i64 e)) wx := by
  intro ρ e; simp [execOp, ho, e, go_sem]
 exact Does.val (this _ e1) rfl
theorem DoesT.ru {T : World → World → Prop} {f : FuncId} {args : Array Value} (hr : (execOp a.eval o).run Try.prog wx = .ok (.enter f args) wx) (hc : Calls Try.prog f args wx fun e w' => ∃ v, e = .returned v ∧ T wx w' ∧ Q w' v) : DoesT T Try.prog o Q false a wx :=
 .inr ⟨rfl, f, args, hr, hc⟩
end
/-- The messages that In delivers, and the two ends behind it. -/
def SIn (B0 B : Nat) (ks : List Nat) (w0 : World) (ef : Nat → Nat) (Sf : Nat → K.E) (ms : List (List UInt8)) : Sp := fun w u => RowV B0 w u ms ∧ E2 B (u.ownBlock.toList ++ ks) w ef Sf ∧ KT B ks w0 w
theorem SIn.mono (B0 B : Nat) (ks : List Nat) (w0 : World) (ef : Nat → Nat) (Sf : Nat → K.E) (ms : List (List UInt8)) : Mono (SIn B0 B ks w0 ef Sf ms) := fun _ _ _ ⟨h1, h2, h3⟩ hb => ⟨h1.below hb, h2.below hb, h3.trans (KT.of hb)⟩
theorem rem2 (i : Nat) : Int.tmod (i : Int) 2 = ((i % 2 : Nat) : Int) := by
 rw [Int.tmod_eq_emod_of_nonneg (by omega)]; omega
/-- The messages sent so far. -/
def Pr.sent (m : Nat → Nat) (k i : Nat) : Nat → Nat := fun j => if j < k then m j else if j = k then i else 0
theorem Pr.F_congr {wf : Nat → Int} {key : Int} {m m' ac de : Nat → Nat} {ow : Nat → Bool} (h : ∀ j, j < 2 → m j = m' j) : ∀ j, j < 2 → Pr.F wf key m ac de ow j = Pr.F wf key m' ac de ow j := fun j hj => by unfold Pr.F; rw [h j hj]
theorem Pr.sent_next {wf : Nat → Int} {key : Int} {m : Nat → Nat} {k i : Nat} {ow : Nat → Bool} : ∀ j, j < 2 → K.upd (Pr.F wf key (Pr.sent m k i) (fun _ => 0) (fun _ => 0) ow) k { Pr.F wf key (Pr.sent m k i) (fun _ => 0) (fun _ => 0) ow k with wait := (Pr.F wf key (Pr.sent m k i) (fun _ => 0) (fun _ => 0) ow k).wait ++ [Pr.msg i] } j = Pr.F wf key (Pr.sent m k (i + 1)) (fun _ => 0) (fun _ => 0) ow j := by
 intro j hj
 unfold K.upd Pr.F
 by_cases h : j = k
 ·subst h
  rw [if_pos rfl]
  have e : ∀ i, Pr.sent m j i j = i := fun i => by unfold Pr.sent; rw [if_neg (by omega), if_pos rfl]
  rw [e, e, Pr.Ms_succ]
  rfl
 ·rw [if_neg h]
  have e : Pr.sent m k i j = Pr.sent m k (i + 1) j := by
   unfold Pr.sent
   split
   ·rfl
   ·rfl
  rw [e]
theorem Pr.sent_end {m : Nat → Nat} {k : Nat} : ∀ j, Pr.sent m k (m k) j = Pr.sent m (k + 1) 0 j := by
 intro j
 unfold Pr.sent
 by_cases h1 : j < k
 ·rw [if_pos h1, if_pos (by omega)]
 ·rw [if_neg h1]
  by_cases h2 : j = k
  ·rw [if_pos h2, if_pos (by omega), h2]
  ·rw [if_neg h2, if_neg (by omega)]
   split <;> rfl
theorem Pr.sent_all {m : Nat → Nat} : ∀ j, j < 2 → Pr.sent m 2 0 j = m j := fun j hj => by unfold Pr.sent; rw [if_pos hj]
theorem Pr.F_out {wf : Nat → Int} {key : Int} {m ac de : Nat → Nat} {ow : Nat → Bool} {k : Nat} (h : ow k = false) : ∀ j, j < 2 → K.upd (Pr.F wf key m ac de ow) k { Pr.F wf key m ac de ow k with owing := false } j = Pr.F wf key m ac de ow j := by
 intro j hj
 unfold K.upd
 by_cases hk : j = k
 ·rw [if_pos hk, hk]; unfold Pr.F; rw [h]; rfl
 ·rw [if_neg hk]
theorem Pr.wait_lt {wf : Nat → Int} {key : Int} {m ac de : Nat → Nat} {ow : Nat → Bool} {k : Nat} (h : m k < 1000) : (Pr.F wf key m ac de ow k).wait.length < 1000 := by
 show ((Pr.Ms (m k)).drop (ac k)).length < 1000
 rw [List.length_drop, Pr.Ms_len]
 omega
theorem upd_0 (f : Nat → Nat) (k : Nat) : K.upd f k (f k + 0) = f := by
 funext j
 unfold K.upd
 split
 ·rename_i h; rw [h]; rfl
 ·rfl
theorem upd_eq (f : Nat → Nat) (k y : Nat) : K.upd f k y k = y := by unfold K.upd; rw [if_pos rfl]
theorem upd_upd (f : Nat → Nat) (k x y : Nat) : K.upd (K.upd f k x) k y = K.upd f k y := by
 funext j
 unfold K.upd
 split <;> rfl
theorem Pr.cast_step {Q q j : Nat} (h : Q = q + j) : ((Q : Int) + 1) = ((q + j + 1 : Nat) : Int) := by omega
theorem Pr.byte {i : Nat} (h : i < 31) : ((UInt8.ofNat i).toNat : Int) = (i : Int) := by rw [UInt8.toNat_ofNat']; omega
set_option maxRecDepth 100000 in
theorem pr_reg37 {Q : Exit → Act → World → Prop} (wq : World) (gg gm ge : Nat) (ef m : Nat → Nat) (HCG0 : Hid (∀ wx, Below wq.heap.size wq wx → wx.cell? ⟨gg, 0, none⟩ = some (.int .i64 (m 1 : Int)))) (HCG1 : Hid (∀ wx, Below wq.heap.size wq wx → wx.cell? ⟨gg, 1, none⟩ = some (.int .i64 (m 0 : Int)))) (HCM0 : Hid (∀ wx, Below wq.heap.size wq wx → wx.cell? ⟨gm, 0, none⟩ = some (.int .i64 (m 0 : Int)))) (HCM1 : Hid (∀ wx, Below wq.heap.size wq wx → wx.cell? ⟨gm, 1, none⟩ = some (.int .i64 (m 1 : Int)))) (HCE0 : Hid (∀ wx, Below wq.heap.size wq wx → wx.cell? ⟨ge, 0, none⟩ = some (.pointer (some ⟨ef 0, 0, none⟩)))) (HCE1 : Hid (∀ wx, Below wq.heap.size wq wx → wx.cell? ⟨ge, 1, none⟩ = some (.pointer (some ⟨ef 1, 0, none⟩)))) (HW0 : Hid (∀ wx, Below wq.heap.size wq wx → Calls Try.prog 21 #[.pointer (some ⟨ef 0, 0, none⟩)] wx fun e w' => e = .returned (.int .i64 0) ∧ wx = w')) (HW1 : Hid (∀ wx, Below wq.heap.size wq wx → Calls Try.prog 21 #[.pointer (some ⟨ef 1, 0, none⟩)] wx fun e w' => e = .returned (.int .i64 0) ∧ wx = w')) (x0_ x1_ x2_ x3_ x4_ x5_ x6_ x7_ x8_ x9_ x10_ x13_ x14_ x15_ x17_ x18_ x19_ x20_ x21_ x22_ x23_ x24_ x25_ x26_ x27_ x28_ x29_ x30_ x31_ x32_ x33_ x34_ x35_ x36_ x37_ x38_ x39_ x40_ x41_ x42_ x43_ x44_ x45_ x46_ x47_ x48_ x49_ x50_ x51_ x52_ x53_ x54_ x55_ x56_ x57_ x58_ x59_ x60_ x61_ x62_ x63_ x64_ x65_ x66_ x67_ x68_ x69_ x70_ x71_ x72_ x73_ x74_ x75_ x76_ x77_ x78_ x79_ x80_ x81_ x82_ x83_ x84_ x85_ x86_ x87_ x88_ x89_ x90_ x91_ x92_ x93_ x94_ x95_ x96_ x97_ x98_ x99_ x100_ x101_ x102_ x103_ x104_ x105_ x106_ x107_ x108_ x109_ x110_ x111_ x112_ x113_ x114_ x115_ x116_ x117_ x118_ x119_ x120_ x121_ x122_ x123_ x124_ x125_ x126_ x127_ x128_ x129_ x130_ x131_ x132_ x133_ x134_ x135_ x136_ x137_ x138_ x139_ x140_ x141_ x142_ x143_ x144_ x145_ x146_ x147_ x148_ x149_ x150_ x151_ x152_ x153_ x154_ x155_ x156_ x157_ x158_ x159_ x160_ x161_ x162_ x163_ x164_ x165_ x166_ x167_ x168_ x169_ x170_ x171_ x172_ x173_ x174_ x175_ : Value) (hQ : ∀ (val : Nat → Value) wx, Below wq.heap.size wq wx → Q .normal ⟨#[x0_, x1_, x2_, x3_, x4_, x5_, x6_, x7_, x8_, x9_, .bool true, .slice (some ⟨ge, 0, none⟩) 2 2, .slice (some ⟨gm, 0, none⟩) 2 2, x13_, x14_, x15_, .slice (some ⟨gg, 0, none⟩) 2 2, x17_, x18_, x19_, x20_, x21_, x22_, x23_, x24_, x25_, x26_, x27_, x28_, x29_, x30_, x31_, x32_, x33_, x34_, x35_, x36_, x37_, x38_, x39_, x40_, x41_, x42_, x43_, x44_, x45_, x46_, x47_, x48_, x49_, x50_, x51_, x52_, x53_, x54_, x55_, x56_, x57_, x58_, x59_, x60_, x61_, x62_, x63_, x64_, x65_, x66_, x67_, x68_, x69_, x70_, x71_, x72_, x73_, x74_, x75_, x76_, x77_, x78_, x79_, x80_, x81_, x82_, x83_, x84_, x85_, x86_, x87_, x88_, x89_, x90_, x91_, x92_, x93_, x94_, x95_, x96_, x97_, x98_, x99_, x100_, x101_, x102_, x103_, x104_, x105_, x106_, x107_, x108_, x109_, x110_, x111_, x112_, x113_, x114_, x115_, x116_, x117_, x118_, x119_, x120_, x121_, x122_, x123_, x124_, x125_, x126_, x127_, x128_, x129_, x130_, x131_, x132_, x133_, x134_, x135_, x136_, x137_, x138_, x139_, x140_, x141_, x142_, val 0, val 1, val 2, val 3, val 4, val 5, val 6, val 7, val 8, val 9, val 10, val 11, val 12, val 13, val 14, val 15, val 16, val 17, val 18, val 19, val 20, val 21, val 22, val 23, val 24, val 25, val 26, val 27, val 28, val 29, val 30, val 31, val 32], []⟩ wx) :
  Code.wp Try.prog ((regIn 37 ((Try.f6.body).getD .skip)).getD .skip) Q ⟨#[x0_, x1_, x2_, x3_, x4_, x5_, x6_, x7_, x8_, x9_, x10_, .slice (some ⟨ge, 0, none⟩) 2 2, .slice (some ⟨gm, 0, none⟩) 2 2, x13_, x14_, x15_, .slice (some ⟨gg, 0, none⟩) 2 2, x17_, x18_, x19_, x20_, x21_, x22_, x23_, x24_, x25_, x26_, x27_, x28_, x29_, x30_, x31_, x32_, x33_, x34_, x35_, x36_, x37_, x38_, x39_, x40_, x41_, x42_, x43_, x44_, x45_, x46_, x47_, x48_, x49_, x50_, x51_, x52_, x53_, x54_, x55_, x56_, x57_, x58_, x59_, x60_, x61_, x62_, x63_, x64_, x65_, x66_, x67_, x68_, x69_, x70_, x71_, x72_, x73_, x74_, x75_, x76_, x77_, x78_, x79_, x80_, x81_, x82_, x83_, x84_, x85_, x86_, x87_, x88_, x89_, x90_, x91_, x92_, x93_, x94_, x95_, x96_, x97_, x98_, x99_, x100_, x101_, x102_, x103_, x104_, x105_, x106_, x107_, x108_, x109_, x110_, x111_, x112_, x113_, x114_, x115_, x116_, x117_, x118_, x119_, x120_, x121_, x122_, x123_, x124_, x125_, x126_, x127_, x128_, x129_, x130_, x131_, x132_, x133_, x134_, x135_, x136_, x137_, x138_, x139_, x140_, x141_, x142_, x143_, x144_, x145_, x146_, x147_, x148_, x149_, x150_, x151_, x152_, x153_, x154_, x155_, x156_, x157_, x158_, x159_, x160_, x161_, x162_, x163_, x164_, x165_, x166_, x167_, x168_, x169_, x170_, x171_, x172_, x173_, x174_, x175_], []⟩ wq := by
 have HQ_ := Lib.hid hQ; clear hQ
 conv => arg 2; whnf
 generalize hW_37 : wq.drew = W_37
 refine gen_act ?_
 intro F_ hF_
 have ev11 : F_.eval (.tmp 11) = .slice (some ⟨ge, 0, none⟩) 2 2 := by rw [← hF_]; rfl
 have ev12 : F_.eval (.tmp 12) = .slice (some ⟨gm, 0, none⟩) 2 2 := by rw [← hF_]; rfl
 have ev16 : F_.eval (.tmp 16) = .slice (some ⟨gg, 0, none⟩) 2 2 := by rw [← hF_]; rfl
 have hsz_ : ∀ d ∈ ([(143, []), (144, [0]), (145, [1]), (146, []), (147, [3]), (148, [4]), (149, [2, 5]), (150, [6]), (151, [7]), (152, [8, 7]), (153, [9, 7]), (154, [7]), (155, [11, 7]), (156, [12, 7]), (157, [10, 13, 7]), (158, [7, 14]), (159, [15]), (160, [16]), (161, [17, 16]), (162, [18, 16]), (163, [19, 16]), (164, [20, 16]), (165, [16, 21]), (166, [22]), (167, [23]), (168, [24, 23]), (169, [25, 23]), (170, [26, 23]), (171, [27, 23]), (172, [23, 28]), (173, [29]), (174, [30]), (175, [30, 31]), (10, [32])] : List (Nat × List Nat)).map (·.1), d < F_.tmps.size := by rw [← hF_]; simp
 have HF_ := Lib.hid hF_; clear hF_
 refine wp_flow_tabG true hW_37 34 [(143, []), (144, [0]), (145, [1]), (146, []), (147, [3]), (148, [4]), (149, [2, 5]), (150, [6]), (151, [7]), (152, [8, 7]), (153, [9, 7]), (154, [7]), (155, [11, 7]), (156, [12, 7]), (157, [10, 13, 7]), (158, [7, 14]), (159, [15]), (160, [16]), (161, [17, 16]), (162, [18, 16]), (163, [19, 16]), (164, [20, 16]), (165, [16, 21]), (166, [22]), (167, [23]), (168, [24, 23]), (169, [25, 23]), (170, [26, 23]), (171, [27, 23]), (172, [23, 28]), (173, [29]), (174, [30]), (175, [30, 31]), (10, [32])] [SC (.slice (some ⟨gg, 0, none⟩) 2 2), SC (.pointer (some ⟨gg, 0, none⟩)), SC (.int .i64 (m 1 : Int)), SC (.slice (some ⟨gm, 0, none⟩) 2 2), SC (.pointer (some ⟨gm, 1, none⟩)), SC (.int .i64 (m 1 : Int)), SC (.bool true), SC (.bool true), SC (.slice (some ⟨gg, 0, none⟩) 2 2), SC (.pointer (some ⟨gg, 1, none⟩)), SC (.int .i64 (m 0 : Int)), SC (.slice (some ⟨gm, 0, none⟩) 2 2), SC (.pointer (some ⟨gm, 0, none⟩)), SC (.int .i64 (m 0 : Int)), SC (.bool true), SC (.bool true), SC (.bool true), SC (.slice (some ⟨ge, 0, none⟩) 2 2), SC (.pointer (some ⟨ge, 0, none⟩)), SC (.pointer (some ⟨ef 0, 0, none⟩)), SC (.int .i64 0), SC (.bool true), SC (.bool true), SC (.bool true), SC (.slice (some ⟨ge, 0, none⟩) 2 2), SC (.pointer (some ⟨ge, 1, none⟩)), SC (.pointer (some ⟨ef 1, 0, none⟩)), SC (.int .i64 0), SC (.bool true), SC (.bool true), SC (.bool true), SC (.bool true), SC (.bool true), SC (.bool true)] [false, false, false, false, false, false, false, false, false, false, false, false, false, false, false, false, false, false, false, false, false, false, false, false, false, false, false, false, false, false, false, false, false, false] (by kernel_rfl) (by kernel_rfl) (by kernel_rfl) (by kernel_rfl) (by kernel_rfl) hsz_ ⟨SC.mono _, SC.mono _, SC.mono _, SC.mono _, SC.mono _, SC.mono _, SC.mono _, SC.mono _, SC.mono _, SC.mono _, SC.mono _, SC.mono _, SC.mono _, SC.mono _, SC.mono _, SC.mono _, SC.mono _, SC.mono _, SC.mono _, SC.mono _, SC.mono _, SC.mono _, SC.mono _, SC.mono _, SC.mono _, SC.mono _, SC.mono _, SC.mono _, SC.mono _, SC.mono _, SC.mono _, SC.mono _, SC.mono _, SC.mono _, trivial⟩ ?_ ?_
 ·intro kq hkq a wx hB hp hs
  have hBo : Below wq.heap.size wq wx := dB hW_37 hB
  have hcase : kq = 0 ∨ kq = 1 ∨ kq = 2 ∨ kq = 3 ∨ kq = 4 ∨ kq = 5 ∨ kq = 6 ∨ kq = 7 ∨ kq = 8 ∨ kq = 9 ∨ kq = 10 ∨ kq = 11 ∨ kq = 12 ∨ kq = 13 ∨ kq = 14 ∨ kq = 15 ∨ kq = 16 ∨ kq = 17 ∨ kq = 18 ∨ kq = 19 ∨ kq = 20 ∨ kq = 21 ∨ kq = 22 ∨ kq = 23 ∨ kq = 24 ∨ kq = 25 ∨ kq = 26 ∨ kq = 27 ∨ kq = 28 ∨ kq = 29 ∨ kq = 30 ∨ kq = 31 ∨ kq = 32 ∨ kq = 33 := by omega
  rcases hcase with rfl | rfl | rfl | rfl | rfl | rfl | rfl | rfl | rfl | rfl | rfl | rfl | rfl | rfl | rfl | rfl | rfl | rfl | rfl | rfl | rfl | rfl | rfl | rfl | rfl | rfl | rfl | rfl | rfl | rfl | rfl | rfl | rfl | rfl
  ·clear hp
   exact ⟨_, rfl, .inl ⟨wanted_none rfl, op_mv (s := SC _) rfl ((hs 16 rfl).trans ev16)⟩⟩
  ·obtain ⟨k0, -⟩ := hp
   have e0 : a.eval (.tmp 143) = .slice (some ⟨gg, 0, none⟩) 2 2 := k0
   simp [Act.eval] at e0
   exact ⟨_, rfl, .inl ⟨wanted_none rfl, Does.val (by simp [execOp, Act.eval, e0, go_sem]) rfl⟩⟩
  ·obtain ⟨k0, -⟩ := hp
   have e0 : a.eval (.tmp 144) = .pointer (some ⟨gg, 0, none⟩) := k0
   simp [Act.eval] at e0
   exact ⟨_, rfl, .inl ⟨wanted_none rfl, Does.val (by simp [execOp, Act.eval, e0, go_sem, HCG0.out wx hBo]) rfl⟩⟩
  ·clear hp
   exact ⟨_, rfl, .inl ⟨wanted_none rfl, op_mv (s := SC _) rfl ((hs 12 rfl).trans ev12)⟩⟩
  ·obtain ⟨k0, -⟩ := hp
   have e0 : a.eval (.tmp 146) = .slice (some ⟨gm, 0, none⟩) 2 2 := k0
   simp [Act.eval] at e0
   exact ⟨_, rfl, .inl ⟨wanted_none rfl, Does.val (by simp [execOp, Act.eval, e0, go_sem]) rfl⟩⟩
  ·obtain ⟨k0, -⟩ := hp
   have e0 : a.eval (.tmp 147) = .pointer (some ⟨gm, 1, none⟩) := k0
   simp [Act.eval] at e0
   exact ⟨_, rfl, .inl ⟨wanted_none rfl, Does.val (by simp [execOp, Act.eval, e0, go_sem, HCM1.out wx hBo]) rfl⟩⟩
  ·obtain ⟨k0, k1, -⟩ := hp
   have e0 : a.eval (.tmp 145) = .int .i64 (m 1 : Int) := k0
   simp [Act.eval] at e0
   have e1 : a.eval (.tmp 148) = .int .i64 (m 1 : Int) := k1
   simp [Act.eval] at e1
   exact ⟨_, rfl, .inl ⟨wanted_none rfl, Does.val (by simp [execOp, Act.eval, e0, e1, go_sem]) rfl⟩⟩
  ·obtain ⟨k0, -⟩ := hp
   exact ⟨_, rfl, .inl ⟨wanted_none rfl, op_mv (s := SC _) rfl k0⟩⟩
  ·obtain ⟨k0, -⟩ := hp
   have hgd : a.eval (.tmp 150) = .bool true := k0
   exact ⟨_, rfl, .inl ⟨(wanted_of rfl rfl hgd).trans rfl, op_mv (s := SC _) rfl ((hs 16 rfl).trans ev16)⟩⟩
  ·obtain ⟨k0, k1, -⟩ := hp
   have hgd : a.eval (.tmp 150) = .bool true := k1
   have e0 : a.eval (.tmp 151) = .slice (some ⟨gg, 0, none⟩) 2 2 := k0
   simp [Act.eval] at e0
   exact ⟨_, rfl, .inl ⟨(wanted_of rfl rfl hgd).trans rfl, Does.val (by simp [execOp, Act.eval, e0, go_sem]) rfl⟩⟩
  ·obtain ⟨k0, k1, -⟩ := hp
   have hgd : a.eval (.tmp 150) = .bool true := k1
   have e0 : a.eval (.tmp 152) = .pointer (some ⟨gg, 1, none⟩) := k0
   simp [Act.eval] at e0
   exact ⟨_, rfl, .inl ⟨(wanted_of rfl rfl hgd).trans rfl, Does.val (by simp [execOp, Act.eval, e0, go_sem, HCG1.out wx hBo]) rfl⟩⟩
  ·obtain ⟨k0, -⟩ := hp
   have hgd : a.eval (.tmp 150) = .bool true := k0
   exact ⟨_, rfl, .inl ⟨(wanted_of rfl rfl hgd).trans rfl, op_mv (s := SC _) rfl ((hs 12 rfl).trans ev12)⟩⟩
  ·obtain ⟨k0, k1, -⟩ := hp
   have hgd : a.eval (.tmp 150) = .bool true := k1
   have e0 : a.eval (.tmp 154) = .slice (some ⟨gm, 0, none⟩) 2 2 := k0
   simp [Act.eval] at e0
   exact ⟨_, rfl, .inl ⟨(wanted_of rfl rfl hgd).trans rfl, Does.val (by simp [execOp, Act.eval, e0, go_sem]) rfl⟩⟩
  ·obtain ⟨k0, k1, -⟩ := hp
   have hgd : a.eval (.tmp 150) = .bool true := k1
   have e0 : a.eval (.tmp 155) = .pointer (some ⟨gm, 0, none⟩) := k0
   simp [Act.eval] at e0
   exact ⟨_, rfl, .inl ⟨(wanted_of rfl rfl hgd).trans rfl, Does.val (by simp [execOp, Act.eval, e0, go_sem, HCM0.out wx hBo]) rfl⟩⟩
  ·obtain ⟨k0, k1, k2, -⟩ := hp
   have hgd : a.eval (.tmp 150) = .bool true := k2
   have e0 : a.eval (.tmp 153) = .int .i64 (m 0 : Int) := k0
   simp [Act.eval] at e0
   have e1 : a.eval (.tmp 156) = .int .i64 (m 0 : Int) := k1
   simp [Act.eval] at e1
   exact ⟨_, rfl, .inl ⟨(wanted_of rfl rfl hgd).trans rfl, Does.val (by simp [execOp, Act.eval, e0, e1, go_sem]) rfl⟩⟩
  ·obtain ⟨k0, k1, -⟩ := hp
   have e0 : a.eval (.tmp 150) = .bool true := k0
   simp [Act.eval] at e0
   have e1 : a.eval (.tmp 157) = .bool true := k1
   simp [Act.eval] at e1
   exact ⟨_, rfl, .inl ⟨wanted_none rfl, Does.val (by simp [execOp, Act.eval, e0, e1, go_sem]) rfl⟩⟩
  ·obtain ⟨k0, -⟩ := hp
   exact ⟨_, rfl, .inl ⟨wanted_none rfl, op_mv (s := SC _) rfl k0⟩⟩
  ·obtain ⟨k0, -⟩ := hp
   have hgd : a.eval (.tmp 159) = .bool true := k0
   exact ⟨_, rfl, .inl ⟨(wanted_of rfl rfl hgd).trans rfl, op_mv (s := SC _) rfl ((hs 11 rfl).trans ev11)⟩⟩
  ·obtain ⟨k0, k1, -⟩ := hp
   have hgd : a.eval (.tmp 159) = .bool true := k1
   have e0 : a.eval (.tmp 160) = .slice (some ⟨ge, 0, none⟩) 2 2 := k0
   simp [Act.eval] at e0
   exact ⟨_, rfl, .inl ⟨(wanted_of rfl rfl hgd).trans rfl, Does.val (by simp [execOp, Act.eval, e0, go_sem]) rfl⟩⟩
  ·obtain ⟨k0, k1, -⟩ := hp
   have hgd : a.eval (.tmp 159) = .bool true := k1
   have e0 : a.eval (.tmp 161) = .pointer (some ⟨ge, 0, none⟩) := k0
   simp [Act.eval] at e0
   exact ⟨_, rfl, .inl ⟨(wanted_of rfl rfl hgd).trans rfl, Does.val (by simp [execOp, Act.eval, e0, go_sem, HCE0.out wx hBo]) rfl⟩⟩
  ·obtain ⟨k0, k1, -⟩ := hp
   have hgd : a.eval (.tmp 159) = .bool true := k1
   exact ⟨_, rfl, .inl ⟨(wanted_of rfl rfl hgd).trans rfl, Does.rv (f := 21) (call1 rfl (fun _ => by simp [go_sem]) k0) (HW0.out wx hBo)⟩⟩
  ·obtain ⟨k0, k1, -⟩ := hp
   have hgd : a.eval (.tmp 159) = .bool true := k1
   have e0 : a.eval (.tmp 163) = .int .i64 0 := k0
   simp [Act.eval] at e0
   exact ⟨_, rfl, .inl ⟨(wanted_of rfl rfl hgd).trans rfl, Does.val (by simp [execOp, Act.eval, e0, go_sem]) rfl⟩⟩
  ·obtain ⟨k0, k1, -⟩ := hp
   have e0 : a.eval (.tmp 159) = .bool true := k0
   simp [Act.eval] at e0
   have e1 : a.eval (.tmp 164) = .bool true := k1
   simp [Act.eval] at e1
   exact ⟨_, rfl, .inl ⟨wanted_none rfl, Does.val (by simp [execOp, Act.eval, e0, e1, go_sem]) rfl⟩⟩
  ·obtain ⟨k0, -⟩ := hp
   exact ⟨_, rfl, .inl ⟨wanted_none rfl, op_mv (s := SC _) rfl k0⟩⟩
  ·obtain ⟨k0, -⟩ := hp
   have hgd : a.eval (.tmp 166) = .bool true := k0
   exact ⟨_, rfl, .inl ⟨(wanted_of rfl rfl hgd).trans rfl, op_mv (s := SC _) rfl ((hs 11 rfl).trans ev11)⟩⟩
  ·obtain ⟨k0, k1, -⟩ := hp
   have hgd : a.eval (.tmp 166) = .bool true := k1
   have e0 : a.eval (.tmp 167) = .slice (some ⟨ge, 0, none⟩) 2 2 := k0
   simp [Act.eval] at e0
   exact ⟨_, rfl, .inl ⟨(wanted_of rfl rfl hgd).trans rfl, Does.val (by simp [execOp, Act.eval, e0, go_sem]) rfl⟩⟩
  ·obtain ⟨k0, k1, -⟩ := hp
   have hgd : a.eval (.tmp 166) = .bool true := k1
   have e0 : a.eval (.tmp 168) = .pointer (some ⟨ge, 1, none⟩) := k0
   simp [Act.eval] at e0
   exact ⟨_, rfl, .inl ⟨(wanted_of rfl rfl hgd).trans rfl, Does.val (by simp [execOp, Act.eval, e0, go_sem, HCE1.out wx hBo]) rfl⟩⟩
  ·obtain ⟨k0, k1, -⟩ := hp
   have hgd : a.eval (.tmp 166) = .bool true := k1
   exact ⟨_, rfl, .inl ⟨(wanted_of rfl rfl hgd).trans rfl, Does.rv (f := 21) (call1 rfl (fun _ => by simp [go_sem]) k0) (HW1.out wx hBo)⟩⟩
  ·obtain ⟨k0, k1, -⟩ := hp
   have hgd : a.eval (.tmp 166) = .bool true := k1
   have e0 : a.eval (.tmp 170) = .int .i64 0 := k0
   simp [Act.eval] at e0
   exact ⟨_, rfl, .inl ⟨(wanted_of rfl rfl hgd).trans rfl, Does.val (by simp [execOp, Act.eval, e0, go_sem]) rfl⟩⟩
  ·obtain ⟨k0, k1, -⟩ := hp
   have e0 : a.eval (.tmp 166) = .bool true := k0
   simp [Act.eval] at e0
   have e1 : a.eval (.tmp 171) = .bool true := k1
   simp [Act.eval] at e1
   exact ⟨_, rfl, .inl ⟨wanted_none rfl, Does.val (by simp [execOp, Act.eval, e0, e1, go_sem]) rfl⟩⟩
  ·obtain ⟨k0, -⟩ := hp
   exact ⟨_, rfl, .inl ⟨wanted_none rfl, op_mv (s := SC _) rfl k0⟩⟩
  ·obtain ⟨k0, -⟩ := hp
   have hgd : a.eval (.tmp 173) = .bool true := k0
   exact ⟨_, rfl, .inl ⟨(wanted_of rfl rfl hgd).trans rfl, Does.rc (f := 23) (call0 rfl (fun _ => by simp [go_sem])) (lives_any wx)⟩⟩
  ·obtain ⟨k0, k1, -⟩ := hp
   have e0 : a.eval (.tmp 173) = .bool true := k0
   simp [Act.eval] at e0
   have e1 : a.eval (.tmp 174) = .bool true := k1
   simp [Act.eval] at e1
   exact ⟨_, rfl, .inl ⟨wanted_none rfl, Does.val (by simp [execOp, Act.eval, e0, e1, go_sem]) rfl⟩⟩
  ·obtain ⟨k0, -⟩ := hp
   exact ⟨_, rfl, .inl ⟨wanted_none rfl, op_as (s := SC _) rfl k0⟩⟩
 ·intro val wx hB hsp hdis
  have hBo : Below wq.heap.size wq wx := dB hW_37 hB
  have e33 : val 33 = .bool true := hsp 33 (by omega)
  rw [← HF_.out]
  change wpList _ _ _ [] _ _
  simp only [puts_consT, puts_nilm, vals, List.map_cons, List.map_nil, Nat.zero_add, Nat.reduceAdd, e33, List.setIfInBounds_toArray, List.set_cons_succ, List.set_cons_zero]
  clear hsp hdis HF_ hsz_ hB hW_37 e33 ev11 ev12 ev16
  go_wp2
  exact HQ_.out val wx hBo
set_option maxRecDepth 100000 in
theorem law_progress (win key one two lost : Int) (w : World) (hw : W.Is64 win) (hkey : 0 ≤ key ∧ key < 18446744073709551616) (h1 : W.Is64 one) (h2 : W.Is64 two) (h3 : W.Is64 lost) :
  Calls Try.prog 6 #[.int .i64 win, .int .u64 key, .int .i64 one, .int .i64 two, .int .i64 lost] w fun e w' => e = .returned (.bool true) ∧ Below w.heap.size w w' := by
 obtain ⟨m0, hm0, hm0b⟩ := K.ar_nat one 31 (by omega)
 obtain ⟨m1, hm1, hm1b⟩ := K.ar_nat two 31 (by omega)
 obtain ⟨L, hL, hLb⟩ := K.ar_nat lost 5 (by omega)
 have hm0 : K.ar one 31 = (m0 : Int) := hm0
 have hm1 : K.ar two 31 = (m1 : Int) := hm1
 have hL : K.ar lost 5 = (L : Int) := hL
 obtain ⟨m, hm⟩ : ∃ m : Nat → Nat, m = fun j => if j = 0 then m0 else m1 := ⟨_, rfl⟩
 have hmm : m 0 = m0 ∧ m 1 = m1 := by rw [hm]; exact ⟨rfl, rfl⟩
 have hmb : ∀ j, m j < 31 := fun j => by rw [hm]; show (if j = 0 then m0 else m1) < 31; split <;> omega
 have HMB := Lib.hid hmb; have HK := Lib.hid hkey
 obtain ⟨wf, hwf⟩ : ∃ wf, wf = Pr.win win := ⟨_, rfl⟩
 have hwr : ∀ j, 1 ≤ wf j ∧ wf j ≤ 16 := fun j => by rw [hwf]; exact Pr.win_rng win j
 have HWR := Lib.hid hwr
 have he := ends_any win key w hw
 rw [← hwf] at he
 have HE := Lib.hid he
 have HA1 : Hid (∀ w, Calls Try.prog 10 #[.int .i64 one, .int .i64 31] w fun e w' => e = .returned (.int .i64 (m 0 : Int)) ∧ w = w') := Lib.hid (fun w => by
  have h := ar_any one 31 w h1 (by omega) (by omega); rw [hm0] at h; rw [hmm.1]; exact h)
 have HA2 : Hid (∀ w, Calls Try.prog 10 #[.int .i64 two, .int .i64 31] w fun e w' => e = .returned (.int .i64 (m 1 : Int)) ∧ w = w') := Lib.hid (fun w => by
  have h := ar_any two 31 w h2 (by omega) (by omega); rw [hm1] at h; rw [hmm.2]; exact h)
 have HA3 : Hid (∀ w, Calls Try.prog 10 #[.int .i64 lost, .int .i64 5] w fun e w' => e = .returned (.int .i64 (L : Int)) ∧ w = w') := Lib.hid (fun w => by
  have h := ar_any lost 5 w h3 (by omega) (by omega); rw [hL] at h; exact h)
 clear hm0 hm1 hL hm hmm hmb hm0b hm1b hwf hwr he h1 h2 h3 hw hkey
 go_enter Try.func6, Try.ntmps6
 go_wp2_with fail
 refine HE.out.mono ?_
 rintro e w1 ⟨ge, ef, rfl, hxe, hE, k2, hge⟩
 have HXE := Lib.hid hxe; have HEE := Lib.hid hE; have k6 := Lib.hid k2; have HGE := Lib.hid hge
 have hq := Lib.run_eql_slice_nil (P := Try.prog) w1 24 35 (some ⟨ge, 0, none⟩) 2 2 0 0 Try.underlying24
 clear hxe hE k2 hge HE
 go_wp2_with fail
 refine (HA1.out _).mono ?_
 rintro e w2 ⟨rfl, rfl⟩
 go_wp2_with fail
 refine (HA2.out _).mono ?_
 rintro e w2 ⟨rfl, rfl⟩
 clear HA1 HA2
 go_wp2_with fail
 generalize hW2 : w1.alloc (.cells _ 3) = w2
 have hxm : Bx w2 w1.heap.size 3 [iv m 0, iv m 1] := by rw [← hW2]; exact Bx.at_ rfl
 have k5 : Below w1.heap.size w1 w2 := by rw [← hW2]; exact (Below.refl _ _).alloc (Nat.le_refl _) _
 have hE2 := HEE.out.add k5 (Nat.le_refl _) hxm.lt
 have hxe := HXE.out.below k5
 have hgm : w.heap.size ≤ w1.heap.size := k6.out.size
 obtain ⟨gm, hgm'⟩ : ∃ g, g = w1.heap.size := ⟨_, rfl⟩
 rw [← hgm'] at hxm hE2 hgm ⊢
 have HNE : Hid (gm ≠ ge) := Lib.hid (fun e => by have := HXE.out.lt; omega)
 have k3 := Lib.hid (Blw k6.out k5)
 have HE2 : Hid (E2 w.heap.size [gm, ge] w2 ef (Pr.F wf key (Pr.sent m 0 0) (fun _ => 0) (fun _ => 0) (fun _ => false))) := Lib.hid (hE2.congr (fun k hk => by
  have e : Pr.sent m 0 0 k = 0 := by unfold Pr.sent; rw [if_neg (by omega)]; split <;> rfl
  unfold Pr.F; rw [e]; rfl))
 have HXM := Lib.hid hxm; have HXE2 := Lib.hid hxe; have HGM := Lib.hid hgm
 clear hW2 hxm k5 hE2 hxe hgm hgm' HXE HEE k6 hq
 go_wp2_with fail
 go_loopw [13] (fun s13 wr => ∃ k : Nat, k ≤ 2 ∧ s13 = .int .i64 (k : Int) ∧ Hid (E2 w.heap.size [gm, ge] wr ef (Pr.F wf key (Pr.sent m k 0) (fun _ => 0) (fun _ => 0) (fun _ => false))) ∧ Hid (KT w.heap.size [gm, ge] w2 wr)) (fun ix _ => (2 - (intOf ix).toNat))
 case atStart => exact ⟨0, by omega, rfl, HE2, Lib.hid (KT.refl _ _ _)⟩
 case round =>
  clear HE2
  obtain ⟨k, hk2, rfl, HEK, HTK⟩ := hrel
  obtain ⟨wk, rfl⟩ : ∃ wk : World, wk = wr := ⟨_, rfl⟩
  by_cases hk : k < 2
  ·have hkd := decide_eq_true (show (k : Int) < 2 by omega)
   have hk3 : (k : Int) < 2 := by omega
   have hk4 : (0 : Int) ≤ (k : Int) := by omega
   obtain ⟨M, hM⟩ : ∃ M, M = m k := ⟨_, rfl⟩
   have HM := Lib.hid hM; clear hM
   go_wp2_with fail
   go_loopw [14] (fun s14 wr => ∃ i : Nat, i ≤ M ∧ s14 = .int .i64 (i : Int) ∧ Hid (E2 w.heap.size [gm, ge] wr ef (Pr.F wf key (Pr.sent m k i) (fun _ => 0) (fun _ => 0) (fun _ => false))) ∧ Hid (KT w.heap.size [gm, ge] w2 wr)) (fun ix _ => (M - (intOf ix).toNat))
   case atStart => exact ⟨0, by omega, rfl, HEK, HTK⟩
   case round =>
    clear HEK HTK
    obtain ⟨i, hi2, rfl, HEI, HTI⟩ := hrel
    obtain ⟨wo, rfl⟩ : ∃ wo : World, wo = wr := ⟨_, rfl⟩
    have f1 : wo.cell? ⟨gm, k, none⟩ = some (.int .i64 (M : Int)) := by rw [HM.out]; exact (HTI.out.bx (by simp) HXM.out).cell (two_get (f := iv m) hk)
    have f2 : wo.cell? ⟨ge, k, none⟩ = some (.pointer (some ⟨ef k, 0, none⟩)) := (HTI.out.bx (by simp) HXE2.out).cell (two_get (f := pv ef) hk)
    have hmk := HMB.out k
    rw [← HM.out] at hmk
    have hz := HTI.out.size
    by_cases hi : i < M
    ·have hid_ := decide_eq_true (show (i : Int) < (M : Int) by omega)
     have hi3 : (i : Int) < (M : Int) := by omega
     have hby := Pr.byte (show i < 31 by omega)
     have hw8 : IntKind.u8.wrap (i : Int) = (i : Int) := by rw [IntKind.wrap_u8]; omega
     have HBV : Hid (BV (wo.alloc (.cells #[.int .u8 (i : Int)] 5)) (.slice (some ⟨wo.heap.size, 0, none⟩) 1 1) (Pr.msg i)) := Lib.hid (bv_lit wo (UInt8.ofNat i) (0, 0) (by rw [hby]))
     clear hby
     go_wp2_with fail
     have hba : Below wo.heap.size wo (wo.alloc (.cells #[.int .u8 (i : Int)] 5)) := (Below.refl _ _).alloc (Nat.le_refl _) _
     refine (e2_send (HEI.out.below hba) hk (by have := hba.size; have := k3.out.size; have := HTI.out.size; omega) HBV.out (by simp [Pr.msg]) (Pr.wait_lt (by have := HMB.out k; have := HM.out; unfold Pr.sent; rw [if_neg (by omega), if_pos rfl]; omega))).mono ?_
     rintro e w6 ⟨rfl, hE6, hT6⟩
     have HE6 := Lib.hid (hE6.congr Pr.sent_next)
     have HT6 := Lib.hid ((HTI.out.trans (KT.of hba)).trans hT6)
     clear hE6 hT6 hba HEI HTI HBV f1 f2
     go_wp2
     exact ⟨⟨i + 1, by omega, by go_num, HE6, HT6⟩, by simp [intOf]; omega⟩
    ·have hid_ := decide_eq_false (show ¬ (i : Int) < (M : Int) by omega)
     have hiM : i = m k := by have := HM.out; omega
     rw [hiM] at HEI
     clear hiM
     go_wp2
     exact ⟨⟨k + 1, by omega, by go_num, Lib.hid (HEI.out.congr (Pr.F_congr (fun j _ => Pr.sent_end j))), HTI⟩, by simp [intOf]; omega⟩
  ·have hkd := decide_eq_false (show ¬ (k : Int) < 2 by omega)
   obtain rfl : k = 2 := by omega
   have HEA : Hid (E2 w.heap.size [gm, ge] wk ef (Pr.F wf key m (fun _ => 0) (fun _ => 0) (fun _ => false))) := Lib.hid (HEK.out.congr (Pr.F_congr (fun j hj => Pr.sent_all j hj)))
   clear HEK
   go_wp2_with fail
   go_loopw [15] (fun s15 wr => ∃ i : Nat, i ≤ L ∧ s15 = .int .i64 (i : Int) ∧ Hid (E2 w.heap.size [gm, ge] wr ef (Pr.F wf key m (fun _ => 0) (fun _ => 0) (fun _ => false))) ∧ Hid (KT w.heap.size [gm, ge] w2 wr)) (fun ix _ => (L - (intOf ix).toNat))
   case atStart => exact ⟨0, by omega, rfl, HEA, HTK⟩
   case round =>
    clear HEA HTK
    obtain ⟨i, hi2, rfl, HEI, HTI⟩ := hrel
    obtain ⟨wo, rfl⟩ : ∃ wo : World, wo = wr := ⟨_, rfl⟩
    have hz := HTI.out.size
    by_cases hi : i < L
    ·have hid_ := decide_eq_true (show (i : Int) < (L : Int) by omega)
     obtain ⟨q, hq, hq2, hqi⟩ : ∃ q : Nat, Int.tmod (i : Int) 2 = (q : Int) ∧ q < 2 ∧ (q : Int) < 2 := ⟨i % 2, rem2 i, by omega, by omega⟩
     have f2 : wo.cell? ⟨ge, q, none⟩ = some (.pointer (some ⟨ef q, 0, none⟩)) := (HTI.out.bx (by simp) HXE2.out).cell (two_get (f := pv ef) hq2)
     have hi3 : (i : Int) < (L : Int) := by omega
     go_wp2_with fail
     refine (HA3.out _).mono ?_
     rintro e w5 ⟨rfl, rfl⟩
     go_wp2_with fail
     refine (e2_out HEI.out hq2 (by have := k3.out.size; omega) (Pr.ok (HWR.out q).1 (HWR.out q).2 HK.out (by have := HMB.out q; omega) (Nat.zero_le _) (Nat.zero_le _))).mono ?_
     rintro e w6 ⟨v6, rfl, -, hE6, hT6⟩
     have HE6 := Lib.hid ((hE6.sub (ks' := [gm, ge]) (fun k hk => by simp at hk ⊢; exact .inr hk)).congr (Pr.F_out rfl))
     have HT6 := Lib.hid (HTI.out.trans hT6)
     clear hE6 hT6 HEI HTI f2
     go_wp2
     exact ⟨⟨i + 1, by omega, by go_num, HE6, HT6⟩, by simp [intOf]; omega⟩
    ·have hid_ := decide_eq_false (show ¬ (i : Int) < (L : Int) by omega)
     have hi3 : ¬ (i : Int) < (L : Int) := by omega
     go_wp2_with fail
     refine (HA3.out _).mono ?_
     rintro e w5 ⟨rfl, rfl⟩
     go_wp2_with fail
     generalize hW3 : wo.alloc (.cells _ 3) = w3
     have hxg : Bx w3 wo.heap.size 3 [iv (fun _ => 0) 0, iv (fun _ => 0) 1] := by rw [← hW3]; exact Bx.at_ rfl
     have k7 : Below wo.heap.size wo w3 := by rw [← hW3]; exact (Below.refl _ _).alloc (Nat.le_refl _) _
     have hE3 := HEI.out.add k7 (Nat.le_refl _) hxg.lt
     have hT3 := HTI.out.trans (KT.of k7)
     have hgg1 : w.heap.size ≤ wo.heap.size := by have := k3.out.size; omega
     have hgg2 : gm < wo.heap.size ∧ ge < wo.heap.size := ⟨by have := HXM.out.lt; omega, by have := HXE2.out.lt; omega⟩
     obtain ⟨gg, hgg⟩ : ∃ g, g = wo.heap.size := ⟨_, rfl⟩
     rw [← hgg] at hxg hE3 hgg1 hgg2 ⊢
     have HXG := Lib.hid hxg; have HE3 := Lib.hid hE3
     have HX3 := Lib.hid (hT3.bx (by simp) HXM.out); have HX4 := Lib.hid (hT3.bx (by simp) HXE2.out)
     have k8 := Lib.hid (k3.out.trans (hT3.below k3.out.size))
     have HGG := Lib.hid (And.intro hgg1 hgg2)
     obtain ⟨mx, hmx⟩ : ∃ mx, mx = max (m 0) (m 1) := ⟨_, rfl⟩
     have HMX := Lib.hid hmx
     have hmxb : mx < 31 := by have := HMB.out 0; have := HMB.out 1; omega
     clear hW3 hxg k7 hE3 hT3 hgg1 hgg2 hgg hmx HXM HXE2 HEI HTI hz hi hid_ hi3 hk hkd hk2
     go_wp2_with fail
     go_loopw [17] (fun s17 wr => ∃ (r : Nat) (ac de : Nat → Nat) (ow : Nat → Bool), r ≤ mx + 1 ∧ s17 = .int .i64 (r : Int) ∧ Hid (Pr.I m ac de ow r 0) ∧ Hid (E2 w.heap.size [gg, gm, ge] wr ef (Pr.F wf key m ac de ow)) ∧ Hid (Bx wr gg 3 [iv de 0, iv de 1]) ∧ Hid (KT w.heap.size [gm, ge] w3 wr)) (fun ix _ => (mx + 1 - (intOf ix).toNat))
     case atStart => exact ⟨0, fun _ => 0, fun _ => 0, fun _ => false, by omega, rfl, Lib.hid (Pr.I0 m), HE3, HXG, Lib.hid (KT.refl _ _ _)⟩
     case round =>
      clear HE3 HXG
      obtain ⟨r, ac, de, ow, hr2, rfl, HI, HE, HXG, HT⟩ := hrel
      obtain ⟨wo, rfl⟩ : ∃ wo : World, wo = wr := ⟨_, rfl⟩
      have HC0 : Hid (∀ wx, Below wo.heap.size wo wx → wx.cell? ⟨gm, 0, none⟩ = some (.int .i64 (m 0 : Int))) := Lib.hid (fun wx hb => ((HT.out.bx (by simp) HX3.out).below hb).cell rfl)
      have HC1 : Hid (∀ wx, Below wo.heap.size wo wx → wx.cell? ⟨gm, 1, none⟩ = some (.int .i64 (m 1 : Int))) := Lib.hid (fun wx hb => ((HT.out.bx (by simp) HX3.out).below hb).cell rfl)
      have hmaxv : (if m 0 < m 1 then (m 1 : Int) else (m 0 : Int)) = (mx : Int) := by have := HMX.out; split <;> omega
      go_upto_region 19 with fail
      generalize hW_19 : wo.drew = W_19
      refine gen_act ?_
      intro F_ hF_
      have ev12 : F_.eval (.tmp 12) = .slice (some ⟨gm, 0, none⟩) 2 2 := by rw [← hF_]; rfl
      have ev17 : F_.eval (.tmp 17) = .int .i64 (r : Int) := by rw [← hF_]; rfl
      have hsz_ : ∀ d ∈ ([(68, []), (69, []), (70, [1]), (71, [2]), (72, []), (73, [4]), (74, [5]), (75, [3, 6])] : List (Nat × List Nat)).map (·.1), d < F_.tmps.size := by rw [← hF_]; simp
      have HF_ := Lib.hid hF_; clear hF_
      refine wp_flow_tab true hW_19 8 [(68, []), (69, []), (70, [1]), (71, [2]), (72, []), (73, [4]), (74, [5]), (75, [3, 6])] [SC (.int .i64 (r : Int)), SC (.slice (some ⟨gm, 0, none⟩) 2 2), SC (.pointer (some ⟨gm, 0, none⟩)), SC (.int .i64 (m 0 : Int)), SC (.slice (some ⟨gm, 0, none⟩) 2 2), SC (.pointer (some ⟨gm, 1, none⟩)), SC (.int .i64 (m 1 : Int)), SC (.int .i64 (mx : Int))] [false, false, false, false, false, false, false, false] (by kernel_rfl) (by kernel_rfl) (by kernel_rfl) (by kernel_rfl) (by kernel_rfl) hsz_ ⟨SC.mono _, SC.mono _, SC.mono _, SC.mono _, SC.mono _, SC.mono _, SC.mono _, SC.mono _, trivial⟩ ?_ ?_
      ·intro kq hkq a wx hB hp hs
       have hBo : Below wo.heap.size wo wx := dB hW_19 hB
       have hcase : kq = 0 ∨ kq = 1 ∨ kq = 2 ∨ kq = 3 ∨ kq = 4 ∨ kq = 5 ∨ kq = 6 ∨ kq = 7 := by omega
       rcases hcase with rfl | rfl | rfl | rfl | rfl | rfl | rfl | rfl
       ·clear hp
        exact ⟨_, rfl, op_mv (s := SC _) rfl ((hs 17 rfl).trans ev17)⟩
       ·clear hp
        exact ⟨_, rfl, op_mv (s := SC _) rfl ((hs 12 rfl).trans ev12)⟩
       ·obtain ⟨k0, -⟩ := hp
        have e0 : a.eval (.tmp 69) = .slice (some ⟨gm, 0, none⟩) 2 2 := k0
        simp [Act.eval] at e0
        exact ⟨_, rfl, Does.val (by simp [execOp, Act.eval, e0, go_sem]) rfl⟩
       ·obtain ⟨k0, -⟩ := hp
        have e0 : a.eval (.tmp 70) = .pointer (some ⟨gm, 0, none⟩) := k0
        simp [Act.eval] at e0
        exact ⟨_, rfl, Does.val (by simp [execOp, Act.eval, e0, go_sem, HC0.out wx hBo]) rfl⟩
       ·clear hp
        exact ⟨_, rfl, op_mv (s := SC _) rfl ((hs 12 rfl).trans ev12)⟩
       ·obtain ⟨k0, -⟩ := hp
        have e0 : a.eval (.tmp 72) = .slice (some ⟨gm, 0, none⟩) 2 2 := k0
        simp [Act.eval] at e0
        exact ⟨_, rfl, Does.val (by simp [execOp, Act.eval, e0, go_sem]) rfl⟩
       ·obtain ⟨k0, -⟩ := hp
        have e0 : a.eval (.tmp 73) = .pointer (some ⟨gm, 1, none⟩) := k0
        simp [Act.eval] at e0
        exact ⟨_, rfl, Does.val (by simp [execOp, Act.eval, e0, go_sem, HC1.out wx hBo]) rfl⟩
       ·obtain ⟨k0, k1, -⟩ := hp
        have e0 : a.eval (.tmp 71) = .int .i64 (m 0 : Int) := k0
        simp [Act.eval] at e0
        have e1 : a.eval (.tmp 74) = .int .i64 (m 1 : Int) := k1
        simp [Act.eval] at e1
        exact ⟨_, rfl, Does.val (by simp [execOp, Act.eval, e0, e1, go_sem, hmaxv]) rfl⟩
      ·intro val wx hB hsp hdis
       have hBo : Below wo.heap.size wo wx := dB hW_19 hB
       have e0 : val 0 = .int .i64 (r : Int) := hsp 0 (by omega)
       have e7 : val 7 = .int .i64 (mx : Int) := hsp 7 (by omega)
       rw [← HF_.out]
       change wpList _ _ _ [_] _ _
       simp only [puts_consT, puts_nilm, vals, List.map_cons, List.map_nil, Nat.zero_add, Nat.reduceAdd, e0, e7, List.setIfInBounds_toArray, List.set_cons_succ, List.set_cons_zero]
       clear hsp hdis HF_ hsz_ hB hW_19 e0 e7 ev12 ev17
       obtain ⟨wq, rfl⟩ : ∃ wq : World, wq = wx := ⟨_, rfl⟩
       have HE' := Lib.hid (HE.out.below hBo); have HXG' := Lib.hid (HXG.out.below hBo); have HT' := Lib.hid (HT.out.trans (KT.of hBo))
       clear HE HXG HT hBo HC0 HC1 hmaxv
       by_cases hr : r ≤ mx
       ·have hrd := decide_eq_true (show (r : Int) ≤ (mx : Int) by omega)
        have hr3 : (r : Int) ≤ (mx : Int) := by omega
        go_wp2_with fail
        go_loopw [18] (fun s18 wr => ∃ (k : Nat) (ac de : Nat → Nat) (ow : Nat → Bool), k ≤ 2 ∧ s18 = .int .i64 (k : Int) ∧ Hid (Pr.I m ac de ow r k) ∧ Hid (E2 w.heap.size [gg, gm, ge] wr ef (Pr.F wf key m ac de ow)) ∧ Hid (Bx wr gg 3 [iv de 0, iv de 1]) ∧ Hid (KT w.heap.size [gm, ge] w3 wr)) (fun ix _ => (2 - (intOf ix).toNat))
        case atStart => exact ⟨0, ac, de, ow, by omega, rfl, HI, HE', HXG', HT'⟩
        case round =>
         clear HI HE' HXG' HT'
         obtain ⟨k, ac, de, ow, hk2, rfl, HI, HE, HXG, HT⟩ := hrel
         obtain ⟨wq, rfl⟩ : ∃ wq : World, wq = wr := ⟨_, rfl⟩
         by_cases hk : k < 2
         ·have hkd := decide_eq_true (show (k : Int) < 2 by omega)
          have hk3 : (k : Int) < 2 := by omega
          have hk4 : (0 : Int) ≤ (k : Int) := by omega
          have f2 : wq.cell? ⟨ge, k, none⟩ = some (.pointer (some ⟨ef k, 0, none⟩)) := (HT.out.bx (by simp) HX4.out).cell (two_get (f := pv ef) hk)
          have hsz : w.heap.size ≤ wq.heap.size := by have := HT.out.size; have := k8.out.size; omega
          obtain ⟨ja, jb, jc, jd, je⟩ := Pr.I_j hk HI.out
          have k9 := HMB.out k
          have k2 := HMB.out (1 - k)
          go_wp2_with fail
          refine (e2_out HE.out hk hsz (Pr.ok (HWR.out k).1 (HWR.out k).2 HK.out (by omega) (by omega) (by omega))).mono ?_
          rintro e w5 ⟨v5, rfl, hr5, hE5, hT5⟩
          obtain ⟨P, hP⟩ : ∃ P, P = K.out (Pr.F wf key m ac de ow k) := ⟨_, rfl⟩
          rw [← hP] at hr5
          obtain ⟨Ap, cp, rfl, hcp, hmp⟩ := hr5.form
          obtain ⟨c, hc⟩ : ∃ c, c = Pr.c (m k) (ac k) (wf k) := ⟨_, rfl⟩
          obtain ⟨po, hpo⟩ : ∃ po, po = (Value.slice Ap P.length cp).ownBlock.toList := ⟨_, rfl⟩
          rw [← hpo] at hE5
          have hgpo : gg ∉ po := fun e => by
           rw [hpo] at e
           have := (hr5.lt gg (by simpa using e)).1
           have := HXG.out.lt
           omega
          have hpk : ∀ x, (Value.slice Ap P.length cp).ownBlock = some x → x ∈ po := fun x hx => by rw [hpo, hx]; simp
          obtain ⟨KS, hKS⟩ : ∃ KS, KS = po ++ [gg, gm, ge] := ⟨_, rfl⟩
          obtain ⟨KP, hKP⟩ : ∃ KP, KP = po ++ [gm, ge] := ⟨_, rfl⟩
          rw [← hKS] at hE5
          have HKK : Hid ((∀ x ∈ KP, x ∈ KS) ∧ gg ∈ KS ∧ gm ∈ KP ∧ ge ∈ KP ∧ gg ∉ KP ∧ (∀ x, (Value.slice Ap P.length cp).ownBlock = some x → x ∈ KP) ∧ (∀ x ∈ [gg, gm, ge], x ∈ KS) ∧ (∀ x ∈ [gm, ge], x ∈ KP)) := Lib.hid (by
           rw [hKS, hKP]
           refine ⟨fun x hx => ?_, by simp, by simp, by simp, fun e => ?_, fun x hx => by simp [hpk x hx], fun x hx => List.mem_append.2 (.inr hx), fun x hx => List.mem_append.2 (.inr hx)⟩
           ·simp only [List.mem_append, List.mem_cons, List.not_mem_nil, or_false] at hx ⊢
            rcases hx with h | h | h
            ·exact .inl h
            ·exact .inr (.inr (.inl h))
            ·exact .inr (.inr (.inr h))
           ·simp only [List.mem_append, List.mem_cons, List.not_mem_nil, or_false] at e
            have h1 := HGG.out.2.1; have h2 := HGG.out.2.2
            rcases e with h | h | h
            ·exact hgpo h
            ·omega
            ·omega)
          have HE5 := Lib.hid (hE5.congr (Pr.G0 (c := c) hk))
          have HX5 := Lib.hid (hT5.bx (by simp) HXG.out)
          have HT5 := Lib.hid (HT.out.trans (hT5.sub (fun x hx => by simp at hx ⊢; exact .inr hx)))
          have HR5 := Lib.hid hr5
          have HP := Lib.hid hP; have HC := Lib.hid hc
          have HJ : Hid (ac k = de (1 - k) ∧ ac k ≤ m k ∧ ac (1 - k) ≤ de k ∧ de k ≤ m (1 - k)) := Lib.hid ⟨ja, jc, jd, je⟩
          obtain ⟨pa, hpa⟩ : ∃ pa, pa = P.length := ⟨_, rfl⟩
          have HPA := Lib.hid hpa
          have hpb : pa ≤ 9223372036854775807 := by unfold maxLen at hmp; omega
          rw [← hpa]
          obtain ⟨k', hk'⟩ : ∃ k', k' = 1 - k := ⟨_, rfl⟩
          have hk'2 : k' < 2 := by omega
          have hk'3 : (k' : Int) < 2 := by omega
          have hk'4 : (0 : Int) ≤ (k' : Int) := by omega
          have hsub : IntKind.i64.wrap (1 - (k : Int)) = (k' : Int) := by rw [IntKind.wrap_i64]; omega
          have hsub2 : wrap64 (1 - (k : Int)) = (k' : Int) := by unfold wrap64; omega
          have HK' := Lib.hid hk'
          clear hr5 hE5 hT5 hP hc hpo hgpo hpk hKS hKP ja jb jc jd je hpa hk' hcp hmp k9 k2 f2 HXG HE
          go_wp2_with fail
          go_loopw [20] (fun s20 wr => ∃ i : Nat, i ≤ pa ∧ s20 = .int .i64 (i : Int) ∧ Hid (E2 w.heap.size KS wr ef (Pr.G wf key m ac de ow k c i)) ∧ Hid (Bx wr gg 3 [iv (K.upd de k' (de k' + min i c)) 0, iv (K.upd de k' (de k' + min i c)) 1]) ∧ Hid (KT w.heap.size KP w5 wr)) (fun ix _ => (pa - (intOf ix).toNat))
          case atStart => exact ⟨0, by omega, rfl, HE5, Lib.hid (by rw [Nat.zero_min, upd_0]; exact HX5.out), Lib.hid (KT.refl _ _ _)⟩
          case round =>
           clear HE5 HX5
           obtain ⟨i, hi2, rfl, HE, HXG, HTP⟩ := hrel
           obtain ⟨wo, rfl⟩ : ∃ wo : World, wo = wr := ⟨_, rfl⟩
           by_cases hi : i < pa
           ·have hid_ := decide_eq_true (show (i : Int) < (pa : Int) by omega)
            have hi3 : (i : Int) < (pa : Int) := by omega
            have hi4 : (0 : Int) ≤ (i : Int) := by omega
            have hJ := HJ.out
            have k9 := HMB.out k
            have k2 := HMB.out (1 - k)
            obtain ⟨Pi, ms, hget, hlen, hinn, hms⟩ := Pr.phase (win := wf k) (win' := wf (1 - k)) (key := key) (m := m k) (m' := m (1 - k)) (ac := ac k) (ac' := ac (1 - k)) (de := de k) (de' := de (1 - k)) (ow := ow k) (ow' := ow (1 - k)) (i := i) (by rw [HPA.out, HP.out] at hi; exact hi) hJ.1 hJ.2.1 hJ.2.2.1 hJ.2.2.2 (by omega) (by omega)
            rw [show K.out (Pr.S (wf k) key (Pr.Ms (m k)) (ac k) (de k) (ow k)) = P from HP.out.symm] at hget
            rw [← HC.out] at hinn hms
            obtain ⟨gp, cq, u, ep, hcu, hbu, -, -⟩ := (HTP.out.rowV HR5.out HKK.out.2.2.2.2.2.1).at_ hget
            have hap : Ap = some ⟨gp, 0, none⟩ := by injection ep
            subst hap
            have hgpK : gp ∈ KP := HKK.out.2.2.2.2.2.1 gp rfl
            have HBU := Lib.hid hbu
            obtain ⟨Au, cu, rfl, -⟩ := hbu
            obtain ⟨nu, hnu⟩ : ∃ n, n = Pi.length := ⟨_, rfl⟩
            rw [← hnu] at HBU hcu
            have HCE : Hid (∀ wx, KT w.heap.size KS wo wx → wx.cell? ⟨ge, k', none⟩ = some (.pointer (some ⟨ef k', 0, none⟩))) := Lib.hid (fun wx h => (((HT5.out.trans (HTP.out.sub HKK.out.2.2.2.2.2.2.2)).trans (h.sub (fun x hx => HKK.out.1 x (HKK.out.2.2.2.2.2.2.2 x hx)))).bx (by simp) HX4.out).cell (two_get (f := pv ef) hk'2))
            have HCP : Hid (∀ wx, KT w.heap.size KS wo wx → wx.cell? ⟨gp, i, none⟩ = some (.slice Au nu cu)) := Lib.hid (fun wx h => (World.cell?_of_block (a := ⟨gp, i, none⟩) (h.row gp (HKK.out.1 gp hgpK) (World.block_lt_of_cell? wo ⟨gp, i, none⟩ hcu))).trans hcu)
            have hsz2 : w.heap.size ≤ wo.heap.size := by have := HTP.out.size; have := HR5.out.lt gp rfl; have := HXG.out.lt; have := HGG.out.1; omega
            have HIN : Hid (∀ wx, Below wo.heap.size wo wx → Calls Try.prog 19 #[.pointer (some ⟨ef k', 0, none⟩), .slice Au nu cu] wx fun e w' => ∃ v, e = .returned v ∧ KT w.heap.size KS wx w' ∧ STup (SIn wo.heap.size w.heap.size KS wo ef (Pr.G wf key m ac de ow k c (i + 1)) ms) 0 w' v) := Lib.hid (fun wx hb => by
             have hG : Pr.G wf key m ac de ow k c i (1 - k) = Pr.R (wf (1 - k)) key (m (1 - k)) (ac (1 - k)) (de k) (de (1 - k)) c (ow (1 - k)) i := by unfold Pr.G; rw [if_neg (by omega)]
             have hok : K.ok (Pr.G wf key m ac de ow k c i (1 - k)) := by
              rw [hG]
              exact Pr.ok (HWR.out _).1 (HWR.out _).2 HK.out (by omega) (by split <;> omega) (by have := HC.out; unfold Pr.c at this; omega)
             have h := e2_in (HE.out.below hb) (k := 1 - k) (by omega) (by have := hb.size; omega) hok (HBU.out.below hb) hlen
             rw [hG, hinn, ← HK'.out] at h
             refine h.mono ?_
             rintro e w' ⟨v, rfl, h1, h2, h3⟩
             rw [HK'.out] at h2
             exact ⟨_, rfl, h3, v, rfl, h1.base hb.size, h2.congr (Pr.G1 hk), (KT.of hb).trans h3⟩)
            have HNX : Hid ((∀ j, j < ms.length → ms[j]? = some (Pr.msg (de k' + min i c + j))) ∧ min (i + 1) c = min i c + ms.length ∧ de k' + min i c + ms.length ≤ 31) := Lib.hid (by
             rw [HK'.out]
             rcases hms with ⟨h1, h2⟩ | ⟨h1, h2, h3⟩
             ·rw [h1]
              have h4 := HC.out; unfold Pr.c at h4
              exact ⟨fun j hj => by simp at hj, by simp; omega, by simp; omega⟩
             ·rw [h1]
              refine ⟨fun j hj => ?_, by simp; omega, by simp; omega⟩
              obtain rfl : j = 0 := by simpa using hj
              rfl)
            clear hJ k9 k2 hget hlen hinn hms hcu hgpK hnu HBU ep
            go_upto_region 28 with fail
            generalize hW_28 : wo.drew = W_28
            refine gen_act ?_
            intro F_ hF_
            have ev11 : F_.eval (.tmp 11) = .slice (some ⟨ge, 0, none⟩) 2 2 := by rw [← hF_]; rfl
            have ev18 : F_.eval (.tmp 18) = .int .i64 (k : Int) := by rw [← hF_]; rfl
            have ev19 : F_.eval (.tmp 19) = .slice (some ⟨gp, 0, none⟩) pa cp := by rw [← hF_]; rfl
            have ev20 : F_.eval (.tmp 20) = .int .i64 (i : Int) := by rw [← hF_]; rfl
            have hsz_ : ∀ d ∈ ([(95, []), (96, []), (97, [1]), (98, [0, 2]), (99, [3]), (100, []), (101, []), (102, [5, 6]), (103, [7]), (104, [4, 8]), (94, [9]), (105, [10]), (106, [10]), (21, [11])] : List (Nat × List Nat)).map (·.1), d < F_.tmps.size := by rw [← hF_]; simp
            have HF_ := Lib.hid hF_; clear hF_
            have hmU_ : ∀ kU_, kU_ ≠ 9 → kU_ ∉ ([] : List Nat) → kU_ ∉ ([10, 11, 12, 13] : List Nat) → MonoT (KT w.heap.size KS) (nthS [SC (.slice (some ⟨ge, 0, none⟩) 2 2), SC (.int .i64 (k : Int)), SC (.int .i64 (k' : Int)), SC (.pointer (some ⟨ge, k', none⟩)), SC (.pointer (some ⟨ef k', 0, none⟩)), SC (.slice (some ⟨gp, 0, none⟩) pa cp), SC (.int .i64 (i : Int)), SC (.pointer (some ⟨gp, i, none⟩)), SC (.slice Au nu cu), STup (SIn wo.heap.size w.heap.size KS wo ef (Pr.G wf key m ac de ow k c (i + 1)) ms) 0, STup (SIn wo.heap.size w.heap.size KS wo ef (Pr.G wf key m ac de ow k c (i + 1)) ms) 0, SIn wo.heap.size w.heap.size KS wo ef (Pr.G wf key m ac de ow k c (i + 1)) ms, SC (.int .i64 0), SIn wo.heap.size w.heap.size KS wo ef (Pr.G wf key m ac de ow k c (i + 1)) ms] kU_) := by
             intro kU_ h1 h2 h3
             match kU_, h1, h2, h3 with
             | 0, _, _, _ => exact (fun _ _ _ h _ => h)
             | 1, _, _, _ => exact (fun _ _ _ h _ => h)
             | 2, _, _, _ => exact (fun _ _ _ h _ => h)
             | 3, _, _, _ => exact (fun _ _ _ h _ => h)
             | 4, _, _, _ => exact (fun _ _ _ h _ => h)
             | 5, _, _, _ => exact (fun _ _ _ h _ => h)
             | 6, _, _, _ => exact (fun _ _ _ h _ => h)
             | 7, _, _, _ => exact (fun _ _ _ h _ => h)
             | 8, _, _, _ => exact (fun _ _ _ h _ => h)
             | 9, h1, _, _ => exact absurd rfl h1
             | 10, _, _, h3 => exact absurd (by decide) h3
             | 11, _, _, h3 => exact absurd (by decide) h3
             | 12, _, _, h3 => exact absurd (by decide) h3
             | 13, _, _, h3 => exact absurd (by decide) h3
             | kU_ + 14, _, _, _ => exact fun _ _ _ _ _ => trivial
            refine wp_flow_tabGU (T := KT w.heap.size KS) (KT.rel _ _) true hW_28 14 [(95, []), (96, []), (97, [1]), (98, [0, 2]), (99, [3]), (100, []), (101, []), (102, [5, 6]), (103, [7]), (104, [4, 8]), (94, [9]), (105, [10]), (106, [10]), (21, [11])] [SC (.slice (some ⟨ge, 0, none⟩) 2 2), SC (.int .i64 (k : Int)), SC (.int .i64 (k' : Int)), SC (.pointer (some ⟨ge, k', none⟩)), SC (.pointer (some ⟨ef k', 0, none⟩)), SC (.slice (some ⟨gp, 0, none⟩) pa cp), SC (.int .i64 (i : Int)), SC (.pointer (some ⟨gp, i, none⟩)), SC (.slice Au nu cu), STup (SIn wo.heap.size w.heap.size KS wo ef (Pr.G wf key m ac de ow k c (i + 1)) ms) 0, STup (SIn wo.heap.size w.heap.size KS wo ef (Pr.G wf key m ac de ow k c (i + 1)) ms) 0, SIn wo.heap.size w.heap.size KS wo ef (Pr.G wf key m ac de ow k c (i + 1)) ms, SC (.int .i64 0), SIn wo.heap.size w.heap.size KS wo ef (Pr.G wf key m ac de ow k c (i + 1)) ms] [false, false, false, false, false, false, false, false, false, false, false, false, false, false] (by kernel_rfl) (by kernel_rfl) (by kernel_rfl) (by kernel_rfl) (by kernel_rfl) hsz_ 9 [] [10, 11, 12, 13] (by kernel_rfl) (by kernel_rfl) ⟨SC.mono _, SC.mono _, SC.mono _, SC.mono _, SC.mono _, SC.mono _, SC.mono _, SC.mono _, SC.mono _, STup.mono _ (SIn.mono _ _ _ _ _ _ _), STup.mono _ (SIn.mono _ _ _ _ _ _ _), SIn.mono _ _ _ _ _ _ _, SC.mono _, SIn.mono _ _ _ _ _ _ _, trivial⟩ hmU_ ?_ ?_
            ·intro kq hkq a wx hB hBb hp hs
             have hBo : KT w.heap.size KS wo wx := dK hW_28 hB
             have hcase : kq = 0 ∨ kq = 1 ∨ kq = 2 ∨ kq = 3 ∨ kq = 4 ∨ kq = 5 ∨ kq = 6 ∨ kq = 7 ∨ kq = 8 ∨ kq = 9 ∨ kq = 10 ∨ kq = 11 ∨ kq = 12 ∨ kq = 13 := by omega
             rcases hcase with rfl | rfl | rfl | rfl | rfl | rfl | rfl | rfl | rfl | rfl | rfl | rfl | rfl | rfl
             ·clear hp
              exact ⟨_, rfl, .inr ⟨by decide, .inl ⟨wanted_none rfl, op_mv (s := SC _) rfl ((hs 11 rfl).trans ev11)⟩⟩⟩
             ·clear hp
              exact ⟨_, rfl, .inr ⟨by decide, .inl ⟨wanted_none rfl, op_mv (s := SC _) rfl ((hs 18 rfl).trans ev18)⟩⟩⟩
             ·obtain ⟨k0, -⟩ := hp
              have e0 : a.eval (.tmp 96) = .int .i64 (k : Int) := k0
              simp [Act.eval] at e0
              exact ⟨_, rfl, .inr ⟨by decide, .inl ⟨wanted_none rfl, Does.val (by simp [execOp, Act.eval, e0, go_sem, hsub]) rfl⟩⟩⟩
             ·obtain ⟨k0, k1, -⟩ := hp
              have e0 : a.eval (.tmp 95) = .slice (some ⟨ge, 0, none⟩) 2 2 := k0
              simp [Act.eval] at e0
              have e1 : a.eval (.tmp 97) = .int .i64 (k' : Int) := k1
              simp [Act.eval] at e1
              exact ⟨_, rfl, .inr ⟨by decide, .inl ⟨wanted_none rfl, Does.val (by simp [execOp, Act.eval, e0, e1, go_sem, hk'3, hk'4]) rfl⟩⟩⟩
             ·obtain ⟨k0, -⟩ := hp
              have e0 : a.eval (.tmp 98) = .pointer (some ⟨ge, k', none⟩) := k0
              simp [Act.eval] at e0
              exact ⟨_, rfl, .inr ⟨by decide, .inl ⟨wanted_none rfl, Does.val (by simp [execOp, Act.eval, e0, go_sem, HCE.out wx hBo]) rfl⟩⟩⟩
             ·clear hp
              exact ⟨_, rfl, .inr ⟨by decide, .inl ⟨wanted_none rfl, op_mv (s := SC _) rfl ((hs 19 rfl).trans ev19)⟩⟩⟩
             ·clear hp
              exact ⟨_, rfl, .inr ⟨by decide, .inl ⟨wanted_none rfl, op_mv (s := SC _) rfl ((hs 20 rfl).trans ev20)⟩⟩⟩
             ·obtain ⟨k0, k1, -⟩ := hp
              have e0 : a.eval (.tmp 100) = .slice (some ⟨gp, 0, none⟩) pa cp := k0
              simp [Act.eval] at e0
              have e1 : a.eval (.tmp 101) = .int .i64 (i : Int) := k1
              simp [Act.eval] at e1
              exact ⟨_, rfl, .inr ⟨by decide, .inl ⟨wanted_none rfl, Does.val (by simp [execOp, Act.eval, e0, e1, go_sem, hi3, hi4]) rfl⟩⟩⟩
             ·obtain ⟨k0, -⟩ := hp
              have e0 : a.eval (.tmp 102) = .pointer (some ⟨gp, i, none⟩) := k0
              simp [Act.eval] at e0
              exact ⟨_, rfl, .inr ⟨by decide, .inl ⟨wanted_none rfl, Does.val (by simp [execOp, Act.eval, e0, go_sem, HCP.out wx hBo]) rfl⟩⟩⟩
             ·obtain ⟨k0, k1, -⟩ := hp
              have hBk : Below wo.heap.size wo wx := dB hW_28 (hBb rfl)
              exact ⟨_, rfl, .inl ⟨rfl, .inl ⟨wanted_none rfl, DoesT.ru (f := 19) (call2 rfl (fun _ => by simp [go_sem]) k0 k1) (HIN.out wx hBk)⟩⟩⟩
             ·obtain ⟨k0, -⟩ := hp
              exact ⟨_, rfl, .inr ⟨by decide, .inl ⟨wanted_none rfl, op_mv rfl k0⟩⟩⟩
             ·obtain ⟨k0, -⟩ := hp
              exact ⟨_, rfl, .inr ⟨by decide, .inl ⟨wanted_none rfl, op_tx0 rfl k0⟩⟩⟩
             ·obtain ⟨k0, -⟩ := hp
              exact ⟨_, rfl, .inr ⟨by decide, .inl ⟨wanted_none rfl, op_tx1 rfl k0⟩⟩⟩
             ·obtain ⟨k0, -⟩ := hp
              exact ⟨_, rfl, .inr ⟨by decide, .inl ⟨wanted_none rfl, op_as rfl k0⟩⟩⟩
            ·intro val wx hB hsp hdis
             have hBo : KT w.heap.size KS wo wx := dK hW_28 hB
             have e12 : val 12 = .int .i64 0 := hsp 12 (by omega) (by decide)
             have h13 : (SIn wo.heap.size w.heap.size KS wo ef (Pr.G wf key m ac de ow k c (i + 1)) ms) wx (val 13) := hsp 13 (by omega) (by decide)
             generalize e13 : val 13 = u13 at h13
             rw [← HF_.out]
             change wpList _ _ _ [_] _ _
             simp only [puts_consT, puts_nilm, vals, List.map_cons, List.map_nil, Nat.zero_add, Nat.reduceAdd, e12, e13, List.setIfInBounds_toArray, List.set_cons_succ, List.set_cons_zero]
             clear hsp hdis HF_ hsz_ hB hW_28 e12 e13 ev11 ev18 ev19 ev20
             obtain ⟨h1, h2, h3⟩ : SIn wo.heap.size w.heap.size KS wo ef (Pr.G wf key m ac de ow k c (i + 1)) ms wx u13 := h13
             obtain ⟨w6, rfl⟩ : ∃ w6 : World, w6 = wx := ⟨_, rfl⟩
             obtain ⟨Ax, cx, rfl, hcx, hmx⟩ := h1.form
             obtain ⟨xo, hxo⟩ : ∃ xo, xo = (Value.slice Ax ms.length cx).ownBlock.toList := ⟨_, rfl⟩
             rw [← hxo] at h2
             obtain ⟨nx, hnx⟩ : ∃ nx, nx = ms.length := ⟨_, rfl⟩
             have hgxo : gg ∉ xo := fun e => by
              rw [hxo] at e
              have := (h1.lt gg (by simpa using e)).1
              have := HXG.out.lt
              omega
             have hxk : ∀ x, (Value.slice Ax ms.length cx).ownBlock = some x → x ∈ xo := fun x hx => by rw [hxo, hx]; simp
             have HXX : Hid (gg ∉ xo ∧ ∀ x, (Value.slice Ax ms.length cx).ownBlock = some x → x ∈ xo ++ KP) := Lib.hid ⟨hgxo, fun x hx => List.mem_append.2 (.inl (hxk x hx))⟩
             have HRX := Lib.hid h1; have HE6 := Lib.hid h2; have HK6 := Lib.hid h3
             have HX6 := Lib.hid (h3.bx HKK.out.2.1 HXG.out)
             have HNX2 := Lib.hid hnx
             have hnxb : nx ≤ 31 := by have := HNX.out.2.2; omega
             rw [← hnx]
             obtain ⟨q, hq⟩ : ∃ q, q = de k' + min i c := ⟨_, rfl⟩
             rw [← hq] at HX6 HNX
             have HQ := Lib.hid hq
             have hqb : q + nx ≤ 31 := by have := HNX.out.2.2; omega
             clear h1 h2 h3 hxo hgxo hxk hnx hq hBo HCE HCP HIN hcx hmx HE HXG hmU_
             go_wp2_with fail
             go_loopw [23] (fun s23 wr => ∃ j : Nat, j ≤ nx ∧ s23 = .int .i64 (j : Int) ∧ Hid (E2 w.heap.size (xo ++ KS) wr ef (Pr.G wf key m ac de ow k c (i + 1))) ∧ Hid (Bx wr gg 3 [iv (K.upd de k' (q + j)) 0, iv (K.upd de k' (q + j)) 1]) ∧ Hid (KT w.heap.size (xo ++ KP) w6 wr)) (fun ix _ => (nx - (intOf ix).toNat))
             case atStart => exact ⟨0, by omega, rfl, HE6, HX6, Lib.hid (KT.refl _ _ _)⟩
             case round =>
              clear HE6 HX6
              obtain ⟨j, hj2, rfl, HE, HXG, HTX⟩ := hrel
              obtain ⟨wo2, rfl⟩ : ∃ wo : World, wo = wr := ⟨_, rfl⟩
              by_cases hj : j < nx
              ·have hjd := decide_eq_true (show (j : Int) < (nx : Int) by omega)
               have hj3 : (j : Int) < (nx : Int) := by omega
               have hj4 : (0 : Int) ≤ (j : Int) := by omega
               obtain ⟨gx, cq, u, ep, hcu, hbu, -, -⟩ := (HTX.out.rowV HRX.out HXX.out.2).at_ (HNX.out.1 j (by have := HNX2.out; omega))
               have hap : Ax = some ⟨gx, 0, none⟩ := by injection ep
               subst hap
               obtain ⟨Q, hQ⟩ : ∃ Q, Q = q + j := ⟨_, rfl⟩
               rw [← hQ] at hbu HXG
               have hQb : Q < 31 := by omega
               obtain ⟨Ae, ce, rfl, -, -, hre, -⟩ := hbu
               obtain ⟨gb, ob, rfl, hgb, hcb⟩ := hre (by simp [W.bc, Pr.msg])
               have hcb0 : wo2.cell? ⟨gb, ob, none⟩ = some (.int .u8 (Q : Int)) := by
                have h := hcb 0 _ (bc_some (l := Pr.msg Q) (k := 0) rfl)
                rw [Pr.byte hQb] at h
                exact h
               have HCX : Hid (∀ wx, Below wo2.heap.size wo2 wx → wx.cell? ⟨gx, j, none⟩ = some (.slice (some ⟨gb, ob, none⟩) 1 ce)) := Lib.hid (fun wx hb => (hb.cell (p := ⟨gx, j, none⟩) (World.block_lt_of_cell? wo2 ⟨gx, j, none⟩ hcu)).trans hcu)
               have HCB : Hid (∀ wx, Below wo2.heap.size wo2 wx → wx.cell? ⟨gb, ob, none⟩ = some (.int .u8 (Q : Int))) := Lib.hid (fun wx hb => (hb.cell (p := ⟨gb, ob, none⟩) hgb).trans hcb0)
               have HCG : Hid (∀ wx, Below wo2.heap.size wo2 wx → wx.cell? ⟨gg, k', none⟩ = some (.int .i64 (Q : Int))) := Lib.hid (fun wx hb => by
                have h := (HXG.out.below hb).cell (two_get (f := iv (K.upd de k' Q)) hk'2)
                unfold iv at h
                rwa [upd_eq] at h)
               have HQ2 := Lib.hid hQ
               have hw64 : IntKind.i64.wrap (Q : Int) = (Q : Int) := by rw [IntKind.wrap_i64]; omega
               clear hcu hre hcb hcb0 hgb hQ ep
               go_upto_region 34 with fail
               generalize hW_34 : wo2.drew = W_34
               refine gen_act ?_
               intro F_ hF_
               have ev16 : F_.eval (.tmp 16) = .slice (some ⟨gg, 0, none⟩) 2 2 := by rw [← hF_]; rfl
               have ev18 : F_.eval (.tmp 18) = .int .i64 (k : Int) := by rw [← hF_]; rfl
               have ev21 : F_.eval (.tmp 21) = .slice (some ⟨gx, 0, none⟩) nx cx := by rw [← hF_]; rfl
               have ev23 : F_.eval (.tmp 23) = .int .i64 (j : Int) := by rw [← hF_]; rfl
               have hsz_ : ∀ d ∈ ([(115, []), (116, []), (117, [0, 1]), (118, [2]), (119, [3]), (120, [4]), (121, [5]), (122, [6]), (123, [6]), (124, [7, 8, 6]), (125, [9, 6]), (126, [10, 6]), (127, [11, 6]), (128, [12, 6]), (129, [6]), (130, [6]), (131, [15, 6]), (132, [14, 16, 6]), (133, [17, 6]), (134, [13, 18, 6]), (135, [6, 19])] : List (Nat × List Nat)).map (·.1), d < F_.tmps.size := by rw [← hF_]; simp
               have HF_ := Lib.hid hF_; clear hF_
               refine wp_flow_tabG true hW_34 21 [(115, []), (116, []), (117, [0, 1]), (118, [2]), (119, [3]), (120, [4]), (121, [5]), (122, [6]), (123, [6]), (124, [7, 8, 6]), (125, [9, 6]), (126, [10, 6]), (127, [11, 6]), (128, [12, 6]), (129, [6]), (130, [6]), (131, [15, 6]), (132, [14, 16, 6]), (133, [17, 6]), (134, [13, 18, 6]), (135, [6, 19])] [SC (.slice (some ⟨gx, 0, none⟩) nx cx), SC (.int .i64 (j : Int)), SC (.pointer (some ⟨gx, j, none⟩)), SC (.slice (some ⟨gb, ob, none⟩) 1 ce), SC (.int .i64 1), SC (.bool false), SC (.bool false), SC (.slice (some ⟨gx, 0, none⟩) nx cx), SC (.int .i64 (j : Int)), SC (.pointer (some ⟨gx, j, none⟩)), SC (.slice (some ⟨gb, ob, none⟩) 1 ce), SC (.pointer (some ⟨gb, ob, none⟩)), SC (.int .u8 (Q : Int)), SC (.int .i64 (Q : Int)), SC (.slice (some ⟨gg, 0, none⟩) 2 2), SC (.int .i64 (k : Int)), SC (.int .i64 (k' : Int)), SC (.pointer (some ⟨gg, k', none⟩)), SC (.int .i64 (Q : Int)), SC (.bool false), SC (.bool false)] [false, false, false, false, false, false, false, false, false, false, false, false, false, false, false, false, false, false, false, false, false] (by kernel_rfl) (by kernel_rfl) (by kernel_rfl) (by kernel_rfl) (by kernel_rfl) hsz_ ⟨SC.mono _, SC.mono _, SC.mono _, SC.mono _, SC.mono _, SC.mono _, SC.mono _, SC.mono _, SC.mono _, SC.mono _, SC.mono _, SC.mono _, SC.mono _, SC.mono _, SC.mono _, SC.mono _, SC.mono _, SC.mono _, SC.mono _, SC.mono _, SC.mono _, trivial⟩ ?_ ?_
               ·intro kq hkq a wx hB hp hs
                have hBo : Below wo2.heap.size wo2 wx := dB hW_34 hB
                have hcase : kq = 0 ∨ kq = 1 ∨ kq = 2 ∨ kq = 3 ∨ kq = 4 ∨ kq = 5 ∨ kq = 6 ∨ kq = 7 ∨ kq = 8 ∨ kq = 9 ∨ kq = 10 ∨ kq = 11 ∨ kq = 12 ∨ kq = 13 ∨ kq = 14 ∨ kq = 15 ∨ kq = 16 ∨ kq = 17 ∨ kq = 18 ∨ kq = 19 ∨ kq = 20 := by omega
                rcases hcase with rfl | rfl | rfl | rfl | rfl | rfl | rfl | rfl | rfl | rfl | rfl | rfl | rfl | rfl | rfl | rfl | rfl | rfl | rfl | rfl | rfl
                ·clear hp
                 exact ⟨_, rfl, .inl ⟨wanted_none rfl, op_mv (s := SC _) rfl ((hs 21 rfl).trans ev21)⟩⟩
                ·clear hp
                 exact ⟨_, rfl, .inl ⟨wanted_none rfl, op_mv (s := SC _) rfl ((hs 23 rfl).trans ev23)⟩⟩
                ·obtain ⟨k0, k1, -⟩ := hp
                 have e0 : a.eval (.tmp 115) = .slice (some ⟨gx, 0, none⟩) nx cx := k0
                 simp [Act.eval] at e0
                 have e1 : a.eval (.tmp 116) = .int .i64 (j : Int) := k1
                 simp [Act.eval] at e1
                 exact ⟨_, rfl, .inl ⟨wanted_none rfl, Does.val (by simp [execOp, Act.eval, e0, e1, go_sem, hj3, hj4]) rfl⟩⟩
                ·obtain ⟨k0, -⟩ := hp
                 have e0 : a.eval (.tmp 117) = .pointer (some ⟨gx, j, none⟩) := k0
                 simp [Act.eval] at e0
                 exact ⟨_, rfl, .inl ⟨wanted_none rfl, Does.val (by simp [execOp, Act.eval, e0, go_sem, HCX.out wx hBo]) rfl⟩⟩
                ·obtain ⟨k0, -⟩ := hp
                 have e0 : a.eval (.tmp 118) = .slice (some ⟨gb, ob, none⟩) 1 ce := k0
                 simp [Act.eval] at e0
                 exact ⟨_, rfl, .inl ⟨wanted_none rfl, Does.val (by simp [execOp, Act.eval, e0, go_sem]) rfl⟩⟩
                ·obtain ⟨k0, -⟩ := hp
                 have e0 : a.eval (.tmp 119) = .int .i64 1 := k0
                 simp [Act.eval] at e0
                 exact ⟨_, rfl, .inl ⟨wanted_none rfl, Does.val (by simp [execOp, Act.eval, e0, go_sem]) rfl⟩⟩
                ·obtain ⟨k0, -⟩ := hp
                 exact ⟨_, rfl, .inl ⟨wanted_none rfl, op_mv (s := SC _) rfl k0⟩⟩
                ·obtain ⟨k0, -⟩ := hp
                 have hgd : a.eval (.tmp 121) = .bool false := k0
                 exact ⟨_, rfl, .inl ⟨(wanted_of rfl rfl hgd).trans rfl, op_mv (s := SC _) rfl ((hs 21 rfl).trans ev21)⟩⟩
                ·obtain ⟨k0, -⟩ := hp
                 have hgd : a.eval (.tmp 121) = .bool false := k0
                 exact ⟨_, rfl, .inl ⟨(wanted_of rfl rfl hgd).trans rfl, op_mv (s := SC _) rfl ((hs 23 rfl).trans ev23)⟩⟩
                ·obtain ⟨k0, k1, k4, -⟩ := hp
                 have hgd : a.eval (.tmp 121) = .bool false := k4
                 have e0 : a.eval (.tmp 122) = .slice (some ⟨gx, 0, none⟩) nx cx := k0
                 simp [Act.eval] at e0
                 have e1 : a.eval (.tmp 123) = .int .i64 (j : Int) := k1
                 simp [Act.eval] at e1
                 exact ⟨_, rfl, .inl ⟨(wanted_of rfl rfl hgd).trans rfl, Does.val (by simp [execOp, Act.eval, e0, e1, go_sem, hj3, hj4]) rfl⟩⟩
                ·obtain ⟨k0, k1, -⟩ := hp
                 have hgd : a.eval (.tmp 121) = .bool false := k1
                 have e0 : a.eval (.tmp 124) = .pointer (some ⟨gx, j, none⟩) := k0
                 simp [Act.eval] at e0
                 exact ⟨_, rfl, .inl ⟨(wanted_of rfl rfl hgd).trans rfl, Does.val (by simp [execOp, Act.eval, e0, go_sem, HCX.out wx hBo]) rfl⟩⟩
                ·obtain ⟨k0, k1, -⟩ := hp
                 have hgd : a.eval (.tmp 121) = .bool false := k1
                 have e0 : a.eval (.tmp 125) = .slice (some ⟨gb, ob, none⟩) 1 ce := k0
                 simp [Act.eval] at e0
                 exact ⟨_, rfl, .inl ⟨(wanted_of rfl rfl hgd).trans rfl, Does.val (by simp [execOp, Act.eval, e0, go_sem]) rfl⟩⟩
                ·obtain ⟨k0, k1, -⟩ := hp
                 have hgd : a.eval (.tmp 121) = .bool false := k1
                 have e0 : a.eval (.tmp 126) = .pointer (some ⟨gb, ob, none⟩) := k0
                 simp [Act.eval] at e0
                 exact ⟨_, rfl, .inl ⟨(wanted_of rfl rfl hgd).trans rfl, Does.val (by simp [execOp, Act.eval, e0, go_sem, HCB.out wx hBo]) rfl⟩⟩
                ·obtain ⟨k0, k1, -⟩ := hp
                 have hgd : a.eval (.tmp 121) = .bool false := k1
                 have e0 : a.eval (.tmp 127) = .int .u8 (Q : Int) := k0
                 simp [Act.eval] at e0
                 exact ⟨_, rfl, .inl ⟨(wanted_of rfl rfl hgd).trans rfl, Does.val (by simp [execOp, Act.eval, e0, go_sem, hw64]) rfl⟩⟩
                ·obtain ⟨k0, -⟩ := hp
                 have hgd : a.eval (.tmp 121) = .bool false := k0
                 exact ⟨_, rfl, .inl ⟨(wanted_of rfl rfl hgd).trans rfl, op_mv (s := SC _) rfl ((hs 16 rfl).trans ev16)⟩⟩
                ·obtain ⟨k0, -⟩ := hp
                 have hgd : a.eval (.tmp 121) = .bool false := k0
                 exact ⟨_, rfl, .inl ⟨(wanted_of rfl rfl hgd).trans rfl, op_mv (s := SC _) rfl ((hs 18 rfl).trans ev18)⟩⟩
                ·obtain ⟨k0, k1, -⟩ := hp
                 have hgd : a.eval (.tmp 121) = .bool false := k1
                 have e0 : a.eval (.tmp 130) = .int .i64 (k : Int) := k0
                 simp [Act.eval] at e0
                 exact ⟨_, rfl, .inl ⟨(wanted_of rfl rfl hgd).trans rfl, Does.val (by simp [execOp, Act.eval, e0, go_sem, hsub]) rfl⟩⟩
                ·obtain ⟨k0, k1, k4, -⟩ := hp
                 have hgd : a.eval (.tmp 121) = .bool false := k4
                 have e0 : a.eval (.tmp 129) = .slice (some ⟨gg, 0, none⟩) 2 2 := k0
                 simp [Act.eval] at e0
                 have e1 : a.eval (.tmp 131) = .int .i64 (k' : Int) := k1
                 simp [Act.eval] at e1
                 exact ⟨_, rfl, .inl ⟨(wanted_of rfl rfl hgd).trans rfl, Does.val (by simp [execOp, Act.eval, e0, e1, go_sem, hk'3, hk'4]) rfl⟩⟩
                ·obtain ⟨k0, k1, -⟩ := hp
                 have hgd : a.eval (.tmp 121) = .bool false := k1
                 have e0 : a.eval (.tmp 132) = .pointer (some ⟨gg, k', none⟩) := k0
                 simp [Act.eval] at e0
                 exact ⟨_, rfl, .inl ⟨(wanted_of rfl rfl hgd).trans rfl, Does.val (by simp [execOp, Act.eval, e0, go_sem, HCG.out wx hBo]) rfl⟩⟩
                ·obtain ⟨k0, k1, k4, -⟩ := hp
                 have hgd : a.eval (.tmp 121) = .bool false := k4
                 have e0 : a.eval (.tmp 128) = .int .i64 (Q : Int) := k0
                 simp [Act.eval] at e0
                 have e1 : a.eval (.tmp 133) = .int .i64 (Q : Int) := k1
                 simp [Act.eval] at e1
                 exact ⟨_, rfl, .inl ⟨(wanted_of rfl rfl hgd).trans rfl, Does.val (by simp [execOp, Act.eval, e0, e1, go_sem]) rfl⟩⟩
                ·obtain ⟨k0, k1, -⟩ := hp
                 have e0 : a.eval (.tmp 121) = .bool false := k0
                 simp [Act.eval] at e0
                 have e1 : a.eval (.tmp 134) = .bool false := k1
                 simp [Act.eval] at e1
                 exact ⟨_, rfl, .inl ⟨wanted_none rfl, Does.val (by simp [execOp, Act.eval, e0, e1, go_sem]) rfl⟩⟩
               ·intro val wx hB hsp hdis
                have hBo : Below wo2.heap.size wo2 wx := dB hW_34 hB
                have e20 : val 20 = .bool false := hsp 20 (by omega)
                rw [← HF_.out]
                change wpList _ _ _ [] _ _
                simp only [puts_consT, puts_nilm, vals, List.map_cons, List.map_nil, Nat.zero_add, Nat.reduceAdd, e20, List.setIfInBounds_toArray, List.set_cons_succ, List.set_cons_zero]
                clear hsp hdis HF_ hsz_ hB hW_34 e20 ev16 ev18 ev21 ev23
                obtain ⟨w7, rfl⟩ : ∃ w7 : World, w7 = wx := ⟨_, rfl⟩
                have hg7 := HXG.out.below hBo
                have HE7 := Lib.hid (HE.out.below hBo); have HT7 := Lib.hid (HTX.out.trans (KT.of hBo))
                have ka := HCG.out w7 hBo
                have hf7 := hg7.frozen k'
                have HG7 := Lib.hid hg7
                have hw1 : wrap64 ((Q : Int) + 1) = ((Q + 1 : Nat) : Int) := by unfold wrap64; omega
                clear hBo hg7 HCX HCB HCG HE HTX HXG hw64
                go_wp2_with fail
                refine ⟨⟨j + 1, by omega, by go_num, Lib.hid (HE7.out.put HG7.out (by decide) (List.mem_append.2 (.inr HKK.out.2.1)) _ _), Lib.hid ?_, Lib.hid (HT7.out.trans (KT.put HG7.out (by decide) HGG.out.1 (fun e => ?_) _ _))⟩, by simp [intOf]; omega⟩
                ·have h := HG7.out.setAs (iv_set (f := K.upd de k' Q) (y := Q + 1) hk'2)
                 rw [upd_upd, HQ2.out] at h
                 rw [Pr.cast_step HQ2.out]
                 exact h
                ·rcases List.mem_append.1 e with h | h
                 ·exact HXX.out.1 h
                 ·exact HKK.out.2.2.2.2.1 h
              ·have hjd := decide_eq_false (show ¬ (j : Int) < (nx : Int) by omega)
               have hjn : j = nx := by omega
               rw [hjn] at HXG
               have HX8 : Hid (Bx wo2 gg 3 [iv (K.upd de k' (de k' + min (i + 1) c)) 0, iv (K.upd de k' (de k' + min (i + 1) c)) 1]) := Lib.hid (by
                rw [HNX.out.2.1, ← HNX2.out, ← Nat.add_assoc, ← HQ.out]; exact HXG.out)
               have HE8 := Lib.hid (HE.out.sub (ks' := KS) (fun x hx => List.mem_append.2 (.inr hx)))
               have HT8 : Hid (KT w.heap.size KP w5 wo2) := Lib.hid ((HTP.out.trans (HK6.out.sub HKK.out.1)).trans (HTX.out.sub (fun x hx => List.mem_append.2 (.inr hx))))
               clear hjn HE HXG HTX
               go_wp2
               exact ⟨⟨i + 1, by omega, by go_num, HE8, HX8, HT8⟩, by simp [intOf]; omega⟩
           ·have hid_ := decide_eq_false (show ¬ (i : Int) < (pa : Int) by omega)
            have hip : i = pa := by omega
            obtain ⟨ac', de', ow', hG, hI', hde⟩ := Pr.after (key := key) hk (HWR.out k).1 HI.out
            rw [← HC.out, ← HP.out, ← HPA.out, ← HK'.out] at hde
            rw [← HC.out, ← HP.out, ← HPA.out] at hG
            rw [hip] at HE HXG
            rw [← hde] at HXG
            have HE6 := Lib.hid ((HE.out.sub HKK.out.2.2.2.2.2.2.1).congr hG)
            have HI6 := Lib.hid hI'
            have HT6 := Lib.hid (HT5.out.trans (HTP.out.sub HKK.out.2.2.2.2.2.2.2))
            clear hip hG hI' hde HE
            go_wp2
            exact ⟨⟨k + 1, ac', de', ow', by omega, by go_num, HI6, HE6, HXG, HT6⟩, by simp [intOf]; omega⟩
         ·have hkd := decide_eq_false (show ¬ (k : Int) < 2 by omega)
          obtain rfl : k = 2 := by omega
          have HI2 := Lib.hid (Pr.Inext HI.out)
          go_wp2
          exact ⟨⟨r + 1, ac, de, ow, by omega, by go_num, HI2, HE, HXG, HT⟩, by simp [intOf]; omega⟩
       ·have hrd := decide_eq_false (show ¬ (r : Int) ≤ (mx : Int) by omega)
        have hr3 : ¬ (r : Int) ≤ (mx : Int) := by omega
        obtain ⟨e1, e2, e3, e4⟩ := Pr.Iend HI.out ⟨by have := HMX.out; omega, by have := HMX.out; omega⟩
        have HCG0 : Hid (∀ wx, Below wq.heap.size wq wx → wx.cell? ⟨gg, 0, none⟩ = some (.int .i64 (m 1 : Int))) := Lib.hid (fun wx hb => by
         have h := (HXG'.out.below hb).cell (i := 0) rfl
         unfold iv at h; rwa [e2] at h)
        have HCG1 : Hid (∀ wx, Below wq.heap.size wq wx → wx.cell? ⟨gg, 1, none⟩ = some (.int .i64 (m 0 : Int))) := Lib.hid (fun wx hb => by
         have h := (HXG'.out.below hb).cell (i := 1) rfl
         unfold iv at h; rwa [e1] at h)
        have HCM0 : Hid (∀ wx, Below wq.heap.size wq wx → wx.cell? ⟨gm, 0, none⟩ = some (.int .i64 (m 0 : Int))) := Lib.hid (fun wx hb => ((HT'.out.bx (by simp) HX3.out).below hb).cell rfl)
        have HCM1 : Hid (∀ wx, Below wq.heap.size wq wx → wx.cell? ⟨gm, 1, none⟩ = some (.int .i64 (m 1 : Int))) := Lib.hid (fun wx hb => ((HT'.out.bx (by simp) HX3.out).below hb).cell rfl)
        have HCE0 : Hid (∀ wx, Below wq.heap.size wq wx → wx.cell? ⟨ge, 0, none⟩ = some (.pointer (some ⟨ef 0, 0, none⟩))) := Lib.hid (fun wx hb => ((HT'.out.bx (by simp) HX4.out).below hb).cell rfl)
        have HCE1 : Hid (∀ wx, Below wq.heap.size wq wx → wx.cell? ⟨ge, 1, none⟩ = some (.pointer (some ⟨ef 1, 0, none⟩))) := Lib.hid (fun wx hb => ((HT'.out.bx (by simp) HX4.out).below hb).cell rfl)
        have HW0 : Hid (∀ wx, Below wq.heap.size wq wx → Calls Try.prog 21 #[.pointer (some ⟨ef 0, 0, none⟩)] wx fun e w' => e = .returned (.int .i64 0) ∧ wx = w') := Lib.hid (fun wx hb => by
         have h := e2_wait (HE'.out.below hb) (k := 0) (by omega)
         rwa [show (Pr.F wf key m ac de ow 0).wait.length = 0 from by show ((Pr.Ms (m 0)).drop (ac 0)).length = 0; rw [List.length_drop, Pr.Ms_len]; omega] at h)
        have HW1 : Hid (∀ wx, Below wq.heap.size wq wx → Calls Try.prog 21 #[.pointer (some ⟨ef 1, 0, none⟩)] wx fun e w' => e = .returned (.int .i64 0) ∧ wx = w') := Lib.hid (fun wx hb => by
         have h := e2_wait (HE'.out.below hb) (k := 1) (by omega)
         rwa [show (Pr.F wf key m ac de ow 1).wait.length = 0 from by show ((Pr.Ms (m 1)).drop (ac 1)).length = 0; rw [List.length_drop, Pr.Ms_len]; omega] at h)
        have HBW : Hid (Below w.heap.size w wq) := Lib.hid (k8.out.trans (HT'.out.below k8.out.size))
        clear HE' HXG' HT' HI e1 e2 e3 e4 HX3 HX4 hr2 hmxb
        go_upto_region 37 with fail
        refine pr_reg37 wq gg gm ge ef m HCG0 HCG1 HCM0 HCM1 HCE0 HCE1 HW0 HW1 _ _ _ _ _ _ _ _ _ _ _ _ _ _ _ _ _ _ _ _ _ _ _ _ _ _ _ _ _ _ _ _ _ _ _ _ _ _ _ _ _ _ _ _ _ _ _ _ _ _ _ _ _ _ _ _ _ _ _ _ _ _ _ _ _ _ _ _ _ _ _ _ _ _ _ _ _ _ _ _ _ _ _ _ _ _ _ _ _ _ _ _ _ _ _ _ _ _ _ _ _ _ _ _ _ _ _ _ _ _ _ _ _ _ _ _ _ _ _ _ _ _ _ _ _ _ _ _ _ _ _ _ _ _ _ _ _ _ _ _ _ _ _ _ _ _ _ _ _ _ _ _ _ _ _ _ _ _ _ _ _ _ _ _ _ _ _ _ _ _ _ _ _ (fun val wx hBo => ?_)
        have HBX := Lib.hid (Blw HBW.out hBo)
        clear hBo HCG0 HCG1 HCM0 HCM1 HCE0 HCE1 HW0 HW1
        go_wp2
        go_ret
        exact ⟨rfl, HBX.out⟩
end Go.Proofs.Ytgdibcgphjmofaa
