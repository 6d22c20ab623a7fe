/-
 THE WALK of LinkOrder.
-/
import Derived.Test.YtgdibcgphjmofaaLnkO3
import Derived.Test.YtgdibcgphjmofaaWalkApp
import Derived.Deep.CutBlock
namespace Go.Proofs.Ytgdibcgphjmofaa
set_option maxHeartbeats 4000000
open Go.RowKit
open Go.Maps
set_option linter.unusedVariables false
theorem Or.Mem.xs_kept {B gs gg ge : Nat} {ef : Nat → Nat} {w w' : World} {sv : Nat → Value} {qv tv : Value} {Sf : Nat → K.E} {Ms : Nat → List (List UInt8)} {de : Nat → Nat} {P : List (List UInt8)} {T : List Nat} (h : Or.Mem B gs gg ge ef w sv qv tv Sf Ms de P T) {k : Nat} (hk : k < 2) (hg : w.grownBy w' (sv k).ownBlock) : Bx w' gs 28 [sv 0, sv 1] := by
 refine h.xs.kept hg (fun e => ?_)
 have hx : gs ∈ ob (sv k) := mem_ob.2 e.symm
 have nd := h.nd
 match k, hk, hx with
 | 0, _, hx =>
  have := nodup_mem (L1 := []) (o := ob (sv 0)) (L2 := ob (sv 1) ++ (ob qv ++ (ob tv ++ [gs, gg, ge]))) (by simpa [Or.KS] using nd) hx
  exact this.2 (by simp)
 | 1, _, hx =>
  have := nodup_mem (L1 := ob (sv 0)) (o := ob (sv 1)) (L2 := ob qv ++ (ob tv ++ [gs, gg, ge])) (by simpa [Or.KS] using nd) hx
  exact this.2 (by simp)
theorem bv_lit2 (w : World) (c d : UInt8) {x y : Value} (hx : x = .int .u8 (c.toNat : Int)) (hy : y = .int .u8 (d.toNat : Int)) : BV (w.alloc (.cells #[x, y] 5)) (.slice (some ⟨w.heap.size, 0, none⟩) 2 2) [c, d] := by
 subst hx; subst hy
 have hb : Bx (w.alloc (.cells #[.int .u8 (c.toNat : Int), .int .u8 (d.toNat : Int)] 5)) w.heap.size 5 [.int .u8 (c.toNat : Int), .int .u8 (d.toNat : Int)] := Bx.at_ rfl
 exact ⟨_, _, rfl, Nat.le_refl _, by decide, fun _ => ⟨w.heap.size, 0, rfl, hb.lt, fun j u hu => by rw [Nat.zero_add]; exact hb.cell hu⟩, fun _ => ⟨w.heap.size, 0, _, _, rfl, hb⟩⟩
theorem E2.adds {B : Nat} {ks ks' : List Nat} {w w' : World} {ef : Nat → Nat} {Sf : Nat → K.E} (h : E2 B ks w ef Sf) (hb : Below w.heap.size w w') (hs : ∀ k ∈ ks', k ∈ ks ∨ w.heap.size ≤ k) (hl : ∀ k ∈ ks', k < w'.heap.size) : E2 B ks' w' ef Sf :=
 Ends.ext (R := []) ⟨Tc.of hb, KB.of hb⟩ h (by simp) hs hl
def Or.b (i : Nat) : List UInt8 := [UInt8.ofNat i, 3]
theorem byte80 {i : Nat} (h : i < 80) : ((UInt8.ofNat i).toNat : Int) = (i : Int) := by rw [UInt8.toNat_ofNat']; omega
set_option maxRecDepth 100000 in
theorem or_reg43 {Q : Exit → Act → World → Prop} (wo : World) (ge gs gg j j' ns cs wl dj : Nat) (ef : Nat → Nat) (As : Option Addr) (hj3 : (j : Int) < 2) (hj4 : (0 : Int) ≤ (j : Int)) (hj'3 : (j' : Int) < 2) (hj'4 : (0 : Int) ≤ (j' : Int)) (hsub : IntKind.i64.wrap (1 - (j : Int)) = (j' : Int)) (hsub3 : IntKind.i64.wrap ((ns : Int) - (dj : Int)) = (ns : Int) - (dj : Int)) (hx1 : ¬ ns < wl) (hx2 : ¬ (wl : Int) < (ns : Int) - (dj : Int)) (HCE : Hid (∀ wx, Below wo.heap.size wo wx → wx.cell? ⟨ge, j, none⟩ = some (.pointer (some ⟨ef j, 0, none⟩)))) (HCS : Hid (∀ wx, Below wo.heap.size wo wx → wx.cell? ⟨gs, j, none⟩ = some (.slice As ns cs))) (HCG : Hid (∀ wx, Below wo.heap.size wo wx → wx.cell? ⟨gg, j', none⟩ = some (.int .i64 (dj : Int)))) (HWT : Hid (∀ wx, Below wo.heap.size wo wx → Calls Try.prog 21 #[.pointer (some ⟨ef j, 0, none⟩)] wx fun e w' => e = .returned (.int .i64 (wl : Int)) ∧ wx = w')) (HFG : Hid (∀ wx, Below wo.heap.size wo wx → Calls Try.prog 22 #[.pointer (some ⟨ef j, 0, none⟩)] wx fun e w' => e = .returned (.int .i64 0) ∧ wx = w')) (x0_ x1_ x2_ x3_ x4_ x5_ x6_ x10_ x11_ x12_ x13_ x14_ x15_ x16_ x17_ x18_ x19_ x20_ x21_ x22_ x24_ x25_ x26_ x27_ x28_ x29_ x30_ x31_ x32_ x33_ x34_ x35_ x36_ x37_ x38_ x39_ x40_ x41_ x42_ x43_ x44_ x45_ x46_ x47_ x48_ x49_ x50_ x51_ x52_ x53_ x54_ x55_ x56_ x57_ x58_ x59_ x60_ x61_ x62_ x63_ x64_ x65_ x66_ x67_ x68_ x69_ x70_ x71_ x72_ x73_ x74_ x75_ x76_ x77_ x78_ x79_ x80_ x81_ x82_ x83_ x84_ x85_ x86_ x87_ x88_ x89_ x90_ x91_ x92_ x93_ x94_ x95_ x96_ x97_ x98_ x99_ x100_ x101_ x102_ x103_ x104_ x105_ x106_ x107_ x108_ x109_ x110_ x111_ x112_ x113_ x114_ x115_ x116_ x117_ x118_ x119_ x120_ x121_ x122_ x123_ x124_ x125_ x126_ x127_ x128_ x129_ x130_ x131_ x132_ x133_ x134_ x135_ x136_ x137_ x138_ x139_ x140_ x141_ x142_ x143_ x144_ x145_ x146_ x147_ x148_ x149_ x150_ x151_ x152_ x153_ x154_ x155_ x156_ x157_ x158_ x159_ x160_ x161_ x162_ x163_ x164_ x165_ x166_ x167_ x168_ x169_ x170_ x171_ x172_ x173_ x174_ x175_ x176_ x177_ x178_ x179_ x180_ x181_ x182_ x183_ x184_ x185_ x186_ x187_ x188_ x189_ x190_ x191_ x192_ x193_ x194_ x195_ x196_ x197_ x198_ x199_ x200_ x201_ x202_ x203_ x204_ x205_ x206_ x207_ x208_ x209_ x210_ x211_ x212_ x213_ : Value) (hQ : ∀ (val : Nat → Value) wx, Below wo.heap.size wo wx → Q .normal ⟨#[x0_, x1_, x2_, x3_, x4_, x5_, x6_, .slice (some ⟨ge, 0, none⟩) 2 2, .slice (some ⟨gs, 0, none⟩) 2 2, .slice (some ⟨gg, 0, none⟩) 2 2, x10_, x11_, x12_, x13_, x14_, x15_, x16_, x17_, x18_, x19_, x20_, x21_, x22_, .int .i64 (j : Int), x24_, x25_, x26_, x27_, x28_, x29_, x30_, x31_, x32_, x33_, x34_, x35_, x36_, x37_, x38_, x39_, x40_, x41_, x42_, x43_, x44_, x45_, x46_, x47_, x48_, x49_, x50_, x51_, x52_, x53_, x54_, x55_, x56_, x57_, x58_, x59_, x60_, x61_, x62_, x63_, x64_, x65_, x66_, x67_, x68_, x69_, x70_, x71_, x72_, x73_, x74_, x75_, x76_, x77_, x78_, x79_, x80_, x81_, x82_, x83_, x84_, x85_, x86_, x87_, x88_, x89_, x90_, x91_, x92_, x93_, x94_, x95_, x96_, x97_, x98_, x99_, x100_, x101_, x102_, x103_, x104_, x105_, x106_, x107_, x108_, x109_, x110_, x111_, x112_, x113_, x114_, x115_, x116_, x117_, x118_, x119_, x120_, x121_, x122_, x123_, x124_, x125_, x126_, x127_, x128_, x129_, x130_, x131_, x132_, x133_, x134_, x135_, x136_, x137_, x138_, x139_, x140_, x141_, x142_, x143_, x144_, x145_, x146_, x147_, x148_, x149_, x150_, x151_, x152_, x153_, x154_, x155_, x156_, x157_, x158_, x159_, x160_, x161_, x162_, x163_, x164_, x165_, x166_, x167_, x168_, x169_, x170_, x171_, x172_, x173_, x174_, val 0, val 1, val 2, val 3, val 4, val 5, val 6, val 7, val 8, val 9, val 10, val 11, val 12, val 13, val 14, val 15, val 16, val 17, val 18, val 19, val 20, val 21, val 22, val 23, val 24, val 25, val 26, val 27, val 28, val 29, val 30, val 31, val 32, val 33, val 34, val 35, val 36, .bool false, x213_], []⟩ wx) :
  Code.wp Try.prog ((regIn 43 ((Try.f5.body).getD .skip)).getD .skip) Q ⟨#[x0_, x1_, x2_, x3_, x4_, x5_, x6_, .slice (some ⟨ge, 0, none⟩) 2 2, .slice (some ⟨gs, 0, none⟩) 2 2, .slice (some ⟨gg, 0, none⟩) 2 2, x10_, x11_, x12_, x13_, x14_, x15_, x16_, x17_, x18_, x19_, x20_, x21_, x22_, .int .i64 (j : Int), x24_, x25_, x26_, x27_, x28_, x29_, x30_, x31_, x32_, x33_, x34_, x35_, x36_, x37_, x38_, x39_, x40_, x41_, x42_, x43_, x44_, x45_, x46_, x47_, x48_, x49_, x50_, x51_, x52_, x53_, x54_, x55_, x56_, x57_, x58_, x59_, x60_, x61_, x62_, x63_, x64_, x65_, x66_, x67_, x68_, x69_, x70_, x71_, x72_, x73_, x74_, x75_, x76_, x77_, x78_, x79_, x80_, x81_, x82_, x83_, x84_, x85_, x86_, x87_, x88_, x89_, x90_, x91_, x92_, x93_, x94_, x95_, x96_, x97_, x98_, x99_, x100_, x101_, x102_, x103_, x104_, x105_, x106_, x107_, x108_, x109_, x110_, x111_, x112_, x113_, x114_, x115_, x116_, x117_, x118_, x119_, x120_, x121_, x122_, x123_, x124_, x125_, x126_, x127_, x128_, x129_, x130_, x131_, x132_, x133_, x134_, x135_, x136_, x137_, x138_, x139_, x140_, x141_, x142_, x143_, x144_, x145_, x146_, x147_, x148_, x149_, x150_, x151_, x152_, x153_, x154_, x155_, x156_, x157_, x158_, x159_, x160_, x161_, x162_, x163_, x164_, x165_, x166_, x167_, x168_, x169_, x170_, x171_, x172_, x173_, x174_, x175_, x176_, x177_, x178_, x179_, x180_, x181_, x182_, x183_, x184_, x185_, x186_, x187_, x188_, x189_, x190_, x191_, x192_, x193_, x194_, x195_, x196_, x197_, x198_, x199_, x200_, x201_, x202_, x203_, x204_, x205_, x206_, x207_, x208_, x209_, x210_, x211_, x212_, x213_], []⟩ wo := by
 have HQ_ := Lib.hid hQ; clear hQ
 conv => arg 2; whnf
 generalize hW_43 : wo.drew = W_43
 refine gen_act ?_
 intro F_ hF_
 have ev7 : F_.eval (.tmp 7) = .slice (some ⟨ge, 0, none⟩) 2 2 := by rw [← hF_]; rfl
 have ev8 : F_.eval (.tmp 8) = .slice (some ⟨gs, 0, none⟩) 2 2 := by rw [← hF_]; rfl
 have ev9 : F_.eval (.tmp 9) = .slice (some ⟨gg, 0, none⟩) 2 2 := by rw [← hF_]; rfl
 have ev23 : F_.eval (.tmp 23) = .int .i64 (j : Int) := by rw [← hF_]; rfl
 have hsz_ : ∀ d ∈ ([(175, []), (176, []), (177, [0, 1]), (178, [2]), (179, [3]), (180, []), (181, []), (182, [5, 6]), (183, [7]), (184, [8]), (185, [4, 9]), (186, [10]), (187, [11]), (188, [11]), (189, [12, 13, 11]), (190, [14, 11]), (191, [15, 11]), (192, [11]), (193, [11]), (194, [17, 18, 11]), (195, [19, 11]), (196, [20, 11]), (197, [11]), (198, [11]), (199, [23, 11]), (200, [22, 24, 11]), (201, [25, 11]), (202, [21, 26, 11]), (203, [16, 27, 11]), (204, [11, 28]), (205, [29]), (206, [30]), (207, [30]), (208, [31, 32, 30]), (209, [33, 30]), (210, [34, 30]), (211, [35, 30]), (212, [30, 36])] : List (Nat × List Nat)).map (·.1), d < F_.tmps.size := by rw [← hF_]; simp
 have HF_ := Lib.hid hF_; clear hF_
 refine wp_flow_tabG true hW_43 38 [(175, []), (176, []), (177, [0, 1]), (178, [2]), (179, [3]), (180, []), (181, []), (182, [5, 6]), (183, [7]), (184, [8]), (185, [4, 9]), (186, [10]), (187, [11]), (188, [11]), (189, [12, 13, 11]), (190, [14, 11]), (191, [15, 11]), (192, [11]), (193, [11]), (194, [17, 18, 11]), (195, [19, 11]), (196, [20, 11]), (197, [11]), (198, [11]), (199, [23, 11]), (200, [22, 24, 11]), (201, [25, 11]), (202, [21, 26, 11]), (203, [16, 27, 11]), (204, [11, 28]), (205, [29]), (206, [30]), (207, [30]), (208, [31, 32, 30]), (209, [33, 30]), (210, [34, 30]), (211, [35, 30]), (212, [30, 36])] [SC (.slice (some ⟨ge, 0, none⟩) 2 2), SC (.int .i64 (j : Int)), SC (.pointer (some ⟨ge, j, none⟩)), SC (.pointer (some ⟨ef j, 0, none⟩)), SC (.int .i64 (wl : Int)), SC (.slice (some ⟨gs, 0, none⟩) 2 2), SC (.int .i64 (j : Int)), SC (.pointer (some ⟨gs, j, none⟩)), SC (.slice As ns cs), SC (.int .i64 ((ns : Nat) : Int)), SC (.bool false), SC (.bool false), SC (.slice (some ⟨ge, 0, none⟩) 2 2), SC (.int .i64 (j : Int)), SC (.pointer (some ⟨ge, j, none⟩)), SC (.pointer (some ⟨ef j, 0, none⟩)), SC (.int .i64 (wl : Int)), SC (.slice (some ⟨gs, 0, none⟩) 2 2), SC (.int .i64 (j : Int)), SC (.pointer (some ⟨gs, j, none⟩)), SC (.slice As ns cs), SC (.int .i64 ((ns : Nat) : Int)), SC (.slice (some ⟨gg, 0, none⟩) 2 2), SC (.int .i64 (j : Int)), SC (.int .i64 (j' : Int)), SC (.pointer (some ⟨gg, j', none⟩)), SC (.int .i64 (dj : Int)), SC (.int .i64 ((ns : Int) - (dj : Int))), SC (.bool false), SC (.bool false), SC (.bool false), SC (.slice (some ⟨ge, 0, none⟩) 2 2), SC (.int .i64 (j : Int)), SC (.pointer (some ⟨ge, j, none⟩)), SC (.pointer (some ⟨ef j, 0, none⟩)), SC (.int .i64 0), SC (.bool false), SC (.bool false)] [false, false, false, false, false, false, false, false, false, false, false, false, false, false, false, false, false, false, false, false, false, false, false, false, false, false, false, false, false, false, false, false, false, false, false, false, false, false] (by kernel_rfl) (by kernel_rfl) (by kernel_rfl) (by kernel_rfl) (by kernel_rfl) hsz_ ⟨SC.mono _, SC.mono _, SC.mono _, SC.mono _, SC.mono _, SC.mono _, SC.mono _, SC.mono _, SC.mono _, SC.mono _, SC.mono _, SC.mono _, SC.mono _, SC.mono _, SC.mono _, SC.mono _, SC.mono _, SC.mono _, SC.mono _, SC.mono _, SC.mono _, SC.mono _, SC.mono _, SC.mono _, SC.mono _, SC.mono _, SC.mono _, SC.mono _, SC.mono _, SC.mono _, SC.mono _, SC.mono _, SC.mono _, SC.mono _, SC.mono _, SC.mono _, SC.mono _, SC.mono _, trivial⟩ ?_ ?_
 ·intro kq hkq a wx hB hp hs
  have hBo : Below wo.heap.size wo wx := dB hW_43 hB
  have hcase : kq = 0 ∨ kq = 1 ∨ kq = 2 ∨ kq = 3 ∨ kq = 4 ∨ kq = 5 ∨ kq = 6 ∨ kq = 7 ∨ kq = 8 ∨ kq = 9 ∨ kq = 10 ∨ kq = 11 ∨ kq = 12 ∨ kq = 13 ∨ kq = 14 ∨ kq = 15 ∨ kq = 16 ∨ kq = 17 ∨ kq = 18 ∨ kq = 19 ∨ kq = 20 ∨ kq = 21 ∨ kq = 22 ∨ kq = 23 ∨ kq = 24 ∨ kq = 25 ∨ kq = 26 ∨ kq = 27 ∨ kq = 28 ∨ kq = 29 ∨ kq = 30 ∨ kq = 31 ∨ kq = 32 ∨ kq = 33 ∨ kq = 34 ∨ kq = 35 ∨ kq = 36 ∨ kq = 37 := by omega
  rcases hcase with rfl | rfl | rfl | rfl | rfl | rfl | rfl | rfl | rfl | rfl | rfl | rfl | rfl | rfl | rfl | rfl | rfl | rfl | rfl | rfl | rfl | rfl | rfl | rfl | rfl | rfl | rfl | rfl | rfl | rfl | rfl | rfl | rfl | rfl | rfl | rfl | rfl | rfl
  ·clear hp
   exact ⟨_, rfl, .inl ⟨wanted_none rfl, op_mv (s := SC _) rfl ((hs 7 rfl).trans ev7)⟩⟩
  ·clear hp
   exact ⟨_, rfl, .inl ⟨wanted_none rfl, op_mv (s := SC _) rfl ((hs 23 rfl).trans ev23)⟩⟩
  ·obtain ⟨k0, k1, -⟩ := hp
   have e0 : a.eval (.tmp 175) = .slice (some ⟨ge, 0, none⟩) 2 2 := k0
   simp [Act.eval] at e0
   have e1 : a.eval (.tmp 176) = .int .i64 (j : Int) := k1
   simp [Act.eval] at e1
   exact ⟨_, rfl, .inl ⟨wanted_none rfl, Does.val (by simp [execOp, Act.eval, e0, e1, go_sem, hj3, hj4]) rfl⟩⟩
  ·obtain ⟨k0, -⟩ := hp
   have e0 : a.eval (.tmp 177) = .pointer (some ⟨ge, j, none⟩) := k0
   simp [Act.eval] at e0
   exact ⟨_, rfl, .inl ⟨wanted_none rfl, Does.val (by simp [execOp, Act.eval, e0, go_sem, HCE.out wx hBo]) rfl⟩⟩
  ·obtain ⟨k0, -⟩ := hp
   exact ⟨_, rfl, .inl ⟨wanted_none rfl, Does.rv (f := 21) (call1 rfl (fun _ => by simp [go_sem]) k0) (HWT.out wx hBo)⟩⟩
  ·clear hp
   exact ⟨_, rfl, .inl ⟨wanted_none rfl, op_mv (s := SC _) rfl ((hs 8 rfl).trans ev8)⟩⟩
  ·clear hp
   exact ⟨_, rfl, .inl ⟨wanted_none rfl, op_mv (s := SC _) rfl ((hs 23 rfl).trans ev23)⟩⟩
  ·obtain ⟨k0, k1, -⟩ := hp
   have e0 : a.eval (.tmp 180) = .slice (some ⟨gs, 0, none⟩) 2 2 := k0
   simp [Act.eval] at e0
   have e1 : a.eval (.tmp 181) = .int .i64 (j : Int) := k1
   simp [Act.eval] at e1
   exact ⟨_, rfl, .inl ⟨wanted_none rfl, Does.val (by simp [execOp, Act.eval, e0, e1, go_sem, hj3, hj4]) rfl⟩⟩
  ·obtain ⟨k0, -⟩ := hp
   have e0 : a.eval (.tmp 182) = .pointer (some ⟨gs, j, none⟩) := k0
   simp [Act.eval] at e0
   exact ⟨_, rfl, .inl ⟨wanted_none rfl, Does.val (by simp [execOp, Act.eval, e0, go_sem, HCS.out wx hBo]) rfl⟩⟩
  ·obtain ⟨k0, -⟩ := hp
   have e0 : a.eval (.tmp 183) = .slice As ns cs := k0
   simp [Act.eval] at e0
   exact ⟨_, rfl, .inl ⟨wanted_none rfl, Does.val (by simp [execOp, Act.eval, e0, go_sem]) rfl⟩⟩
  ·obtain ⟨k0, k1, -⟩ := hp
   have e0 : a.eval (.tmp 179) = .int .i64 (wl : Int) := k0
   simp [Act.eval] at e0
   have e1 : a.eval (.tmp 184) = .int .i64 ((ns : Nat) : Int) := k1
   simp [Act.eval] at e1
   exact ⟨_, rfl, .inl ⟨wanted_none rfl, Does.val (by simp [execOp, Act.eval, e0, e1, go_sem, hx1]) rfl⟩⟩
  ·obtain ⟨k0, -⟩ := hp
   exact ⟨_, rfl, .inl ⟨wanted_none rfl, op_mv (s := SC _) rfl k0⟩⟩
  ·obtain ⟨k0, -⟩ := hp
   have hgd : a.eval (.tmp 186) = .bool false := k0
   exact ⟨_, rfl, .inl ⟨(wanted_of rfl rfl hgd).trans rfl, op_mv (s := SC _) rfl ((hs 7 rfl).trans ev7)⟩⟩
  ·obtain ⟨k0, -⟩ := hp
   have hgd : a.eval (.tmp 186) = .bool false := k0
   exact ⟨_, rfl, .inl ⟨(wanted_of rfl rfl hgd).trans rfl, op_mv (s := SC _) rfl ((hs 23 rfl).trans ev23)⟩⟩
  ·obtain ⟨k0, k1, k2, -⟩ := hp
   have hgd : a.eval (.tmp 186) = .bool false := k2
   have e0 : a.eval (.tmp 187) = .slice (some ⟨ge, 0, none⟩) 2 2 := k0
   simp [Act.eval] at e0
   have e1 : a.eval (.tmp 188) = .int .i64 (j : Int) := k1
   simp [Act.eval] at e1
   exact ⟨_, rfl, .inl ⟨(wanted_of rfl rfl hgd).trans rfl, Does.val (by simp [execOp, Act.eval, e0, e1, go_sem, hj3, hj4]) rfl⟩⟩
  ·obtain ⟨k0, k1, -⟩ := hp
   have hgd : a.eval (.tmp 186) = .bool false := k1
   have e0 : a.eval (.tmp 189) = .pointer (some ⟨ge, j, none⟩) := k0
   simp [Act.eval] at e0
   exact ⟨_, rfl, .inl ⟨(wanted_of rfl rfl hgd).trans rfl, Does.val (by simp [execOp, Act.eval, e0, go_sem, HCE.out wx hBo]) rfl⟩⟩
  ·obtain ⟨k0, k1, -⟩ := hp
   have hgd : a.eval (.tmp 186) = .bool false := k1
   exact ⟨_, rfl, .inl ⟨(wanted_of rfl rfl hgd).trans rfl, Does.rv (f := 21) (call1 rfl (fun _ => by simp [go_sem]) k0) (HWT.out wx hBo)⟩⟩
  ·obtain ⟨k0, -⟩ := hp
   have hgd : a.eval (.tmp 186) = .bool false := k0
   exact ⟨_, rfl, .inl ⟨(wanted_of rfl rfl hgd).trans rfl, op_mv (s := SC _) rfl ((hs 8 rfl).trans ev8)⟩⟩
  ·obtain ⟨k0, -⟩ := hp
   have hgd : a.eval (.tmp 186) = .bool false := k0
   exact ⟨_, rfl, .inl ⟨(wanted_of rfl rfl hgd).trans rfl, op_mv (s := SC _) rfl ((hs 23 rfl).trans ev23)⟩⟩
  ·obtain ⟨k0, k1, k2, -⟩ := hp
   have hgd : a.eval (.tmp 186) = .bool false := k2
   have e0 : a.eval (.tmp 192) = .slice (some ⟨gs, 0, none⟩) 2 2 := k0
   simp [Act.eval] at e0
   have e1 : a.eval (.tmp 193) = .int .i64 (j : Int) := k1
   simp [Act.eval] at e1
   exact ⟨_, rfl, .inl ⟨(wanted_of rfl rfl hgd).trans rfl, Does.val (by simp [execOp, Act.eval, e0, e1, go_sem, hj3, hj4]) rfl⟩⟩
  ·obtain ⟨k0, k1, -⟩ := hp
   have hgd : a.eval (.tmp 186) = .bool false := k1
   have e0 : a.eval (.tmp 194) = .pointer (some ⟨gs, j, none⟩) := k0
   simp [Act.eval] at e0
   exact ⟨_, rfl, .inl ⟨(wanted_of rfl rfl hgd).trans rfl, Does.val (by simp [execOp, Act.eval, e0, go_sem, HCS.out wx hBo]) rfl⟩⟩
  ·obtain ⟨k0, k1, -⟩ := hp
   have hgd : a.eval (.tmp 186) = .bool false := k1
   have e0 : a.eval (.tmp 195) = .slice As ns cs := k0
   simp [Act.eval] at e0
   exact ⟨_, rfl, .inl ⟨(wanted_of rfl rfl hgd).trans rfl, Does.val (by simp [execOp, Act.eval, e0, go_sem]) rfl⟩⟩
  ·obtain ⟨k0, -⟩ := hp
   have hgd : a.eval (.tmp 186) = .bool false := k0
   exact ⟨_, rfl, .inl ⟨(wanted_of rfl rfl hgd).trans rfl, op_mv (s := SC _) rfl ((hs 9 rfl).trans ev9)⟩⟩
  ·obtain ⟨k0, -⟩ := hp
   have hgd : a.eval (.tmp 186) = .bool false := k0
   exact ⟨_, rfl, .inl ⟨(wanted_of rfl rfl hgd).trans rfl, op_mv (s := SC _) rfl ((hs 23 rfl).trans ev23)⟩⟩
  ·obtain ⟨k0, k1, -⟩ := hp
   have hgd : a.eval (.tmp 186) = .bool false := k1
   have e0 : a.eval (.tmp 198) = .int .i64 (j : Int) := k0
   simp [Act.eval] at e0
   exact ⟨_, rfl, .inl ⟨(wanted_of rfl rfl hgd).trans rfl, Does.val (by simp [execOp, Act.eval, e0, go_sem, hsub]) rfl⟩⟩
  ·obtain ⟨k0, k1, k2, -⟩ := hp
   have hgd : a.eval (.tmp 186) = .bool false := k2
   have e0 : a.eval (.tmp 197) = .slice (some ⟨gg, 0, none⟩) 2 2 := k0
   simp [Act.eval] at e0
   have e1 : a.eval (.tmp 199) = .int .i64 (j' : Int) := k1
   simp [Act.eval] at e1
   exact ⟨_, rfl, .inl ⟨(wanted_of rfl rfl hgd).trans rfl, Does.val (by simp [execOp, Act.eval, e0, e1, go_sem, hj'3, hj'4]) rfl⟩⟩
  ·obtain ⟨k0, k1, -⟩ := hp
   have hgd : a.eval (.tmp 186) = .bool false := k1
   have e0 : a.eval (.tmp 200) = .pointer (some ⟨gg, j', none⟩) := k0
   simp [Act.eval] at e0
   exact ⟨_, rfl, .inl ⟨(wanted_of rfl rfl hgd).trans rfl, Does.val (by simp [execOp, Act.eval, e0, go_sem, HCG.out wx hBo]) rfl⟩⟩
  ·obtain ⟨k0, k1, k2, -⟩ := hp
   have hgd : a.eval (.tmp 186) = .bool false := k2
   have e0 : a.eval (.tmp 196) = .int .i64 ((ns : Nat) : Int) := k0
   simp [Act.eval] at e0
   have e1 : a.eval (.tmp 201) = .int .i64 (dj : Int) := k1
   simp [Act.eval] at e1
   exact ⟨_, rfl, .inl ⟨(wanted_of rfl rfl hgd).trans rfl, Does.val (by simp [execOp, Act.eval, e0, e1, go_sem, hsub3]) rfl⟩⟩
  ·obtain ⟨k0, k1, k2, -⟩ := hp
   have hgd : a.eval (.tmp 186) = .bool false := k2
   have e0 : a.eval (.tmp 191) = .int .i64 (wl : Int) := k0
   simp [Act.eval] at e0
   have e1 : a.eval (.tmp 202) = .int .i64 ((ns : Int) - (dj : Int)) := k1
   simp [Act.eval] at e1
   exact ⟨_, rfl, .inl ⟨(wanted_of rfl rfl hgd).trans rfl, Does.val (by simp [execOp, Act.eval, e0, e1, go_sem, hx2]) rfl⟩⟩
  ·obtain ⟨k0, k1, -⟩ := hp
   have e0 : a.eval (.tmp 186) = .bool false := k0
   simp [Act.eval] at e0
   have e1 : a.eval (.tmp 203) = .bool false := k1
   simp [Act.eval] at e1
   exact ⟨_, rfl, .inl ⟨wanted_none rfl, Does.val (by simp [execOp, Act.eval, e0, e1, go_sem]) rfl⟩⟩
  ·obtain ⟨k0, -⟩ := hp
   exact ⟨_, rfl, .inl ⟨wanted_none rfl, op_mv (s := SC _) rfl k0⟩⟩
  ·obtain ⟨k0, -⟩ := hp
   have hgd : a.eval (.tmp 205) = .bool false := k0
   exact ⟨_, rfl, .inl ⟨(wanted_of rfl rfl hgd).trans rfl, op_mv (s := SC _) rfl ((hs 7 rfl).trans ev7)⟩⟩
  ·obtain ⟨k0, -⟩ := hp
   have hgd : a.eval (.tmp 205) = .bool false := k0
   exact ⟨_, rfl, .inl ⟨(wanted_of rfl rfl hgd).trans rfl, op_mv (s := SC _) rfl ((hs 23 rfl).trans ev23)⟩⟩
  ·obtain ⟨k0, k1, k2, -⟩ := hp
   have hgd : a.eval (.tmp 205) = .bool false := k2
   have e0 : a.eval (.tmp 206) = .slice (some ⟨ge, 0, none⟩) 2 2 := k0
   simp [Act.eval] at e0
   have e1 : a.eval (.tmp 207) = .int .i64 (j : Int) := k1
   simp [Act.eval] at e1
   exact ⟨_, rfl, .inl ⟨(wanted_of rfl rfl hgd).trans rfl, Does.val (by simp [execOp, Act.eval, e0, e1, go_sem, hj3, hj4]) rfl⟩⟩
  ·obtain ⟨k0, k1, -⟩ := hp
   have hgd : a.eval (.tmp 205) = .bool false := k1
   have e0 : a.eval (.tmp 208) = .pointer (some ⟨ge, j, none⟩) := k0
   simp [Act.eval] at e0
   exact ⟨_, rfl, .inl ⟨(wanted_of rfl rfl hgd).trans rfl, Does.val (by simp [execOp, Act.eval, e0, go_sem, HCE.out wx hBo]) rfl⟩⟩
  ·obtain ⟨k0, k1, -⟩ := hp
   have hgd : a.eval (.tmp 205) = .bool false := k1
   exact ⟨_, rfl, .inl ⟨(wanted_of rfl rfl hgd).trans rfl, Does.rv (f := 22) (call1 rfl (fun _ => by simp [go_sem]) k0) (HFG.out wx hBo)⟩⟩
  ·obtain ⟨k0, k1, -⟩ := hp
   have hgd : a.eval (.tmp 205) = .bool false := k1
   have e0 : a.eval (.tmp 210) = .int .i64 0 := k0
   simp [Act.eval] at e0
   exact ⟨_, rfl, .inl ⟨(wanted_of rfl rfl hgd).trans rfl, Does.val (by simp [execOp, Act.eval, e0, go_sem]) rfl⟩⟩
  ·obtain ⟨k0, k1, -⟩ := hp
   have e0 : a.eval (.tmp 205) = .bool false := k0
   simp [Act.eval] at e0
   have e1 : a.eval (.tmp 211) = .bool false := k1
   simp [Act.eval] at e1
   exact ⟨_, rfl, .inl ⟨wanted_none rfl, Does.val (by simp [execOp, Act.eval, e0, e1, go_sem]) rfl⟩⟩
 ·intro val wx hB hsp hdis
  have hBo : Below wo.heap.size wo wx := dB hW_43 hB
  have e37 : val 37 = .bool false := hsp 37 (by omega)
  rw [← HF_.out]
  change wpList _ _ _ [] _ _
  simp only [puts_consT, puts_nilm, vals, List.map_cons, List.map_nil, Nat.zero_add, Nat.reduceAdd, e37, List.setIfInBounds_toArray, List.set_cons_succ, List.set_cons_zero]
  clear hsp hdis HF_ hsz_ hB hW_43 e37 ev7 ev8 ev9 ev23
  go_wp2
  exact HQ_.out val wx hBo
set_option maxRecDepth 100000 in
theorem law_order (win key : Int) (A : Option Addr) (len cap : Nat) (zs : List Int) (w : World) (hw : W.Is64 win) (hkey : 0 ≤ key ∧ key < 18446744073709551616) (hz : IsI w A len cap zs) :
  Calls Try.prog 5 #[.int .i64 win, .int .u64 key, .slice A len cap] w fun e w' => e = .returned (.bool true) ∧ Below w.heap.size w w' := by
 obtain ⟨hr, rfl, hc, hm, hz64⟩ := hz
 have HR := Lib.hid hr; have H64 := Lib.hid hz64; have HK := Lib.hid hkey
 obtain ⟨wf, hwf⟩ : ∃ wf, wf = Pr.win win := ⟨_, rfl⟩
 have hwr : ∀ j, 1 ≤ wf j ∧ wf j ≤ 16 := fun j => by rw [hwf]; exact Pr.win_rng win j
 have HWR := Lib.hid hwr
 have he := ends_any win key w hw
 rw [← hwf] at he
 have HE := Lib.hid he
 obtain ⟨N, hN⟩ : ∃ N, N = zs.length := ⟨_, rfl⟩
 rw [← hN] at hc ⊢
 have HN := Lib.hid hN
 have hNb : N ≤ 9223372036854775807 := by unfold maxLen at hm; omega
 clear hr hz64 hkey hwf hwr he hw hN hm hc
 go_enter Try.func5, Try.ntmps5
 go_wp2_with fail
 refine HE.out.mono ?_
 rintro e w1 ⟨ge, ef, rfl, hxe, hE, k9, hge⟩
 have HXE := Lib.hid hxe; have HEE := Lib.hid hE; have ka := Lib.hid k9; have HGE := Lib.hid hge
 have hq := Lib.run_eql_slice_nil (P := Try.prog) w1 24 35 (some ⟨ge, 0, none⟩) 2 2 0 0 Try.underlying24
 clear hxe hE k9 hge HE
 go_wp2_with fail
 generalize hW2 : (w1.alloc (.cells _ 28)).alloc (.cells _ 3) = w2
 obtain ⟨hx2, hg2, k6⟩ := box2 hW2
 have hgl : ge < w1.heap.size := HXE.out.lt
 have hs2 := hg2.lt
 have HM : Hid (Or.Mem w.heap.size w1.heap.size (w1.heap.size + 1) ge ef w2 (fun _ => .slice none 0 0) (.slice none 0 0) (.slice none 0 0) (fun k => K.E0 (wf k) key) (fun _ => []) (fun _ => 0) [] []) := Lib.hid (by
  refine ⟨?_, HEE.out.adds k6 (fun k hk => ?_) (fun k hk => ?_), HXE.out.below k6, hx2, hg2, fun k hk => ⟨[], World.ownsRow_nil _ _ _ _, Vs.nil _⟩, ⟨[], World.ownsRow_nil _ _ _ _, Vs.nil _⟩, World.ownsRow_nil _ _ _ _⟩
  ·simp [Or.KS, ob, Value.ownBlock]
   omega
  ·simp [Or.KS, ob, Value.ownBlock] at hk ⊢
   omega
  ·simp [Or.KS, ob, Value.ownBlock] at hk
   omega)
 have kc := Lib.hid (Blw ka.out k6)
 have hgs1 : w.heap.size ≤ w1.heap.size := ka.out.size
 obtain ⟨gs, hgs⟩ : ∃ g, g = w1.heap.size := ⟨_, rfl⟩
 rw [← hgs] at HM hgs1 ⊢
 obtain ⟨gg, hgg⟩ : ∃ g, g = gs + 1 := ⟨_, rfl⟩
 rw [← hgg] at HM ⊢
 have HGG : Hid (w.heap.size ≤ gs ∧ w.heap.size ≤ gg) := Lib.hid ⟨hgs1, by omega⟩
 have HI : Hid (Or.Inv wf key 0 (fun k => K.E0 (wf k) key) (fun _ => []) (fun _ => 0) (fun _ => 0) [] []) := Lib.hid ⟨fun k hk => ⟨rfl, rfl, rfl, Nat.le_refl _, Nat.le_refl _, Nat.le_refl _, fun i l h => (by cases h), rfl⟩, fun k hk => ⟨rfl, rfl, Nat.le_refl _⟩, fun k hk => ⟨Nat.le_refl _, by simp⟩, ⟨rfl, Nat.le_refl _⟩, fun x Q t h => by simp at h⟩
 clear hW2 hx2 hg2 k6 hgl hs2 hgs1 hgs hgg HXE HEE ka hq HGE
 go_wp2_with fail
 go_loopw [10, 11, 12] (fun s10 s11 s12 wr => ∃ (i : Nat) (sv : Nat → Value) (Sf : Nat → K.E) (Ms : Nat → List (List UInt8)) (ac de : Nat → Nat) (P : List (List UInt8)) (T : List Nat), i ≤ 80 ∧ s12 = .int .i64 (i : Int) ∧ Hid (Or.Mem w.heap.size gs gg ge ef wr sv s10 s11 Sf Ms de P T) ∧ Hid (Or.Inv wf key i Sf Ms ac de P T) ∧ Hid (Below w.heap.size w wr)) (fun _ _ ix _ => (80 - (intOf ix).toNat))
 case atStart => exact ⟨0, _, _, _, _, _, _, _, by omega, rfl, HM, HI, kc⟩
 case round =>
  clear HM HI kc
  obtain ⟨i, sv, Sf, Ms, ac, de, P, T, hi80, rfl, HM, HI, HB⟩ := hrel
  obtain ⟨wq, rfl⟩ : ∃ wq : World, wq = wr := ⟨_, rfl⟩
  by_cases hiN : i < N
  ·have hd1 := decide_eq_true (show (i : Int) < (N : Int) by omega)
   have hi3 : (i : Int) < (N : Int) := by omega
   have hi4 : (0 : Int) ≤ (i : Int) := by omega
   by_cases hi : i < 80
   ·have hd2 := decide_eq_true (show (i : Int) < 80 by omega)
    have hi5 : (i : Int) < 80 := by omega
    obtain ⟨b, o, rfl, hbw, hcell⟩ := HR.out (by have h := HN.out; simp [ic]; omega)
    obtain ⟨z, hz⟩ : ∃ z, zs[i]? = some z := ⟨_, List.getElem?_eq_getElem (by rw [← HN.out]; omega)⟩
    have hz64 := H64.out z (List.mem_of_getElem? hz)
    have f1 : wq.cell? ⟨b, o + i, none⟩ = some (.int .i64 z) := (HB.out.cell (p := ⟨b, o + i, none⟩) hbw).trans (hcell i _ (by simp [ic, hz]))
    have hq8 : IntKind.i64.wrap (z.tdiv 8) = z.tdiv 8 := by have h := is64_tdiv hz64 8 (by omega); unfold W.Is64 at h; rw [IntKind.wrap_i64]; omega
    obtain ⟨n, hn, hnb⟩ := K.ar_nat (z.tdiv 8) 1073741824 (by omega)
    obtain ⟨h, hh, hhb⟩ := K.ar_nat z 8 (by omega)
    have hn : K.ar (z.tdiv 8) 1073741824 = (n : Int) := hn
    have hh : K.ar z 8 = (h : Int) := hh
    have HA1 : Hid (∀ w, Calls Try.prog 10 #[.int .i64 (z.tdiv 8), .int .i64 1073741824] w fun e w' => e = .returned (.int .i64 (n : Int)) ∧ w = w') := Lib.hid (fun w => by
     have h := ar_any (z.tdiv 8) 1073741824 w (is64_tdiv hz64 8 (by omega)) (by omega) (by omega); rw [hn] at h; exact h)
    have HA2 : Hid (∀ w, Calls Try.prog 10 #[.int .i64 z, .int .i64 8] w fun e w' => e = .returned (.int .i64 (h : Int)) ∧ w = w') := Lib.hid (fun w => by
     have h := ar_any z 8 w hz64 (by omega) (by omega); rw [hh] at h; exact h)
    obtain ⟨k, hk, hk2, hk3, hk4⟩ : ∃ k : Nat, Int.tmod (n : Int) 2 = (k : Int) ∧ k < 2 ∧ (k : Int) < 2 ∧ (0 : Int) ≤ (k : Int) := ⟨n % 2, rem2 n, by omega, by omega, by omega⟩
    clear hcell hz hn hh
    go_wp2_with fail
    refine (HA1.out _).mono ?_
    rintro e w3 ⟨rfl, rfl⟩
    go_wp2_with fail
    refine (HA2.out _).mono ?_
    rintro e w3 ⟨rfl, rfl⟩
    clear HA1 HA2 hz64 f1 hq8
    go_upto_block 2 with fail
    go_cut [10, 11, 15, 16, 17, 18, 19, 20, 21, 22] from 31 to 212 (fun s10 s11 s15 s16 s17 s18 s19 s20 s21 s22 wx => ∃ (sv : Nat → Value) (Sf : Nat → K.E) (Ms : Nat → List (List UInt8)) (ac de : Nat → Nat) (P : List (List UInt8)) (T : List Nat), Hid (Or.Mem w.heap.size gs gg ge ef wx sv s10 s11 Sf Ms de P T) ∧ Hid (Or.Inv wf key (i + 1) Sf Ms ac de P T) ∧ Hid (Below w.heap.size w wx))
    case first =>
     have hcase : h = 0 ∨ h = 1 ∨ h = 2 ∨ h = 3 ∨ 4 ≤ h := by omega
     rcases hcase with rfl | rfl | rfl | rfl | h4
     ·have f2 : (wq.alloc (.cells #[.int .u8 (i : Int), .int .u8 3] 5)).cell? ⟨ge, k, none⟩ = some (.pointer (some ⟨ef k, 0, none⟩)) := (HM.out.xe.alloc _).cell (two_get (f := pv ef) hk2)
      have hw8 : IntKind.u8.wrap (i : Int) = (i : Int) := by rw [IntKind.wrap_u8]; omega
      obtain ⟨As, cs, hsv, -, -⟩ := (HM.out.rs k hk2).form
      obtain ⟨ns, hns⟩ : ∃ ns, ns = (Ms k).length := ⟨_, rfl⟩
      rw [← hns] at hsv
      have HSV := Lib.hid hsv
      have HBV : Hid (BV (wq.alloc (.cells #[.int .u8 (i : Int), .int .u8 3] 5)) (.slice (some ⟨wq.heap.size, 0, none⟩) 2 2) (Or.b i)) := Lib.hid (bv_lit2 wq (UInt8.ofNat i) 3 (by rw [byte80 hi]) rfl)
      have hba : Below wq.heap.size wq (wq.alloc (.cells #[.int .u8 (i : Int), .int .u8 3] 5)) := (Below.refl _ _).alloc (Nat.le_refl _) _
      have HBA := Lib.hid hba
      clear hba hsv hns
      go_wp2_with fail
      refine (e2_send (HM.out.en.below HBA.out) hk2 (by have := HBA.out.size; have := HB.out.size; omega) HBV.out (by simp [Or.b]) (by have h1 := (HI.out.e k hk2).w; rw [h1, List.length_drop]; have := (HI.out.m k hk2).1; omega)).mono ?_
      rintro e w5 ⟨rfl, hE5, hT5⟩
      have HM5 := Lib.hid ((HM.out.below HBA.out).kt hT5 hE5)
      have HBV5 := Lib.hid (HBV.out.kb hT5.kb)
      have k2 := Lib.hid ((Blw HB.out HBA.out).trans (hT5.below (by have := HBA.out.size; have := HB.out.size; omega)))
      have f3 : w5.cell? ⟨gs, k, none⟩ = some (.slice As ns cs) := by rw [← HSV.out]; exact HM5.out.xs.cell (two_get (f := sv) hk2)
      have hrs : RowV w.heap.size (w5.alloc (.cells #[.slice (some ⟨wq.heap.size, 0, none⟩) 2 2] 33)) (.slice As ns cs) (Ms k) := by rw [← HSV.out]; exact (HM5.out.rs k hk2).below ((Below.refl _ _).alloc (Nat.le_refl _) _)
      have HRS := Lib.hid hrs
      have HML : Hid ((Ms k).length ≤ 1000000000) := Lib.hid (by have := (HI.out.m k hk2).1; omega)
      have HI6 := Lib.hid (HI.out.send hk2 (b := Or.b i) rfl (by omega))
      have hsz5 : w.heap.size ≤ w5.heap.size := k2.out.size
      clear hE5 hT5 f2 hw8 hrs HM HB HI HBV HBA
      go_wp2_with (at_builtin; refine wpList_appR rfl (.tmp 140) (.tmp 142) rfl rfl rfl (g := w5.heap.size) (base := w.heap.size) (by simp; omega) HRS.out (Bx.at_ rfl) (HBV5.out.below ((Below.refl _ _).alloc (Nat.le_refl _) _)) HML.out ?_)
      intro v6 w6 hr6 hg6 hkb6 hn6
      obtain ⟨A6, c6, rfl, -, -⟩ := hr6.form
      generalize hL6 : (Ms k ++ [Or.b i]).length = N6 at hr6 hg6 hkb6 hn6 ⊢
      have hba : Below w5.heap.size w5 (w5.alloc (.cells #[.slice (some ⟨wq.heap.size, 0, none⟩) 2 2] 33)) := (Below.refl _ _).alloc (Nat.le_refl _) _
      rw [← HSV.out] at hg6 hn6
      have hMa := HM5.out.below hba
      have hx6 := hMa.xs_kept hk2 hg6
      have f4 := hx6.cell (two_get (f := sv) hk2)
      have hf4 := hx6.frozen k
      have HM6 := Lib.hid (hMa.app_s hk2 hr6 hg6 hkb6 (fun x hx => by rcases hn6 x hx with h | h; exact .inl h; exact .inr (by simp; omega)))
      have k3 := (Blw k2.out hba).grown hg6 (by have := hba.size; omega) (fun x hx => ((hMa.rs k hk2).lt x hx).1)
      have k4 : Hid (Below w.heap.size w (w6.setCell ⟨gs, k, none⟩ (.slice A6 N6 c6))) := Lib.hid (k3.setCell HGG.out.1 _)
      clear hr6 hg6 hkb6 hn6 hba hMa hx6 k3 HM5 HBV5 k2 HRS HML f3 hL6
      go_wp2
      go_meet
      exact ⟨_, _, _, _, _, _, _, HM6, HI6, k4⟩
     ·have f2 : (wq.alloc (.cells #[.int .u8 (i : Int), .int .u8 3] 5)).cell? ⟨ge, k, none⟩ = some (.pointer (some ⟨ef k, 0, none⟩)) := (HM.out.xe.alloc _).cell (two_get (f := pv ef) hk2)
      have hw8 : IntKind.u8.wrap (i : Int) = (i : Int) := by rw [IntKind.wrap_u8]; omega
      obtain ⟨As, cs, hsv, -, -⟩ := (HM.out.rs k hk2).form
      obtain ⟨ns, hns⟩ : ∃ ns, ns = (Ms k).length := ⟨_, rfl⟩
      rw [← hns] at hsv
      have HSV := Lib.hid hsv
      have HBV : Hid (BV (wq.alloc (.cells #[.int .u8 (i : Int), .int .u8 3] 5)) (.slice (some ⟨wq.heap.size, 0, none⟩) 2 2) (Or.b i)) := Lib.hid (bv_lit2 wq (UInt8.ofNat i) 3 (by rw [byte80 hi]) rfl)
      have hba : Below wq.heap.size wq (wq.alloc (.cells #[.int .u8 (i : Int), .int .u8 3] 5)) := (Below.refl _ _).alloc (Nat.le_refl _) _
      have HBA := Lib.hid hba
      clear hba hsv hns
      go_wp2_with fail
      refine (e2_send (HM.out.en.below HBA.out) hk2 (by have := HBA.out.size; have := HB.out.size; omega) HBV.out (by simp [Or.b]) (by have h1 := (HI.out.e k hk2).w; rw [h1, List.length_drop]; have := (HI.out.m k hk2).1; omega)).mono ?_
      rintro e w5 ⟨rfl, hE5, hT5⟩
      have HM5 := Lib.hid ((HM.out.below HBA.out).kt hT5 hE5)
      have HBV5 := Lib.hid (HBV.out.kb hT5.kb)
      have k2 := Lib.hid ((Blw HB.out HBA.out).trans (hT5.below (by have := HBA.out.size; have := HB.out.size; omega)))
      have f3 : w5.cell? ⟨gs, k, none⟩ = some (.slice As ns cs) := by rw [← HSV.out]; exact HM5.out.xs.cell (two_get (f := sv) hk2)
      have hrs : RowV w.heap.size (w5.alloc (.cells #[.slice (some ⟨wq.heap.size, 0, none⟩) 2 2] 33)) (.slice As ns cs) (Ms k) := by rw [← HSV.out]; exact (HM5.out.rs k hk2).below ((Below.refl _ _).alloc (Nat.le_refl _) _)
      have HRS := Lib.hid hrs
      have HML : Hid ((Ms k).length ≤ 1000000000) := Lib.hid (by have := (HI.out.m k hk2).1; omega)
      have HI6 := Lib.hid (HI.out.send hk2 (b := Or.b i) rfl (by omega))
      have hsz5 : w.heap.size ≤ w5.heap.size := k2.out.size
      clear hE5 hT5 f2 hw8 hrs HM HB HI HBV HBA
      go_wp2_with (at_builtin; refine wpList_appR rfl (.tmp 140) (.tmp 142) rfl rfl rfl (g := w5.heap.size) (base := w.heap.size) (by simp; omega) HRS.out (Bx.at_ rfl) (HBV5.out.below ((Below.refl _ _).alloc (Nat.le_refl _) _)) HML.out ?_)
      intro v6 w6 hr6 hg6 hkb6 hn6
      obtain ⟨A6, c6, rfl, -, -⟩ := hr6.form
      generalize hL6 : (Ms k ++ [Or.b i]).length = N6 at hr6 hg6 hkb6 hn6 ⊢
      have hba : Below w5.heap.size w5 (w5.alloc (.cells #[.slice (some ⟨wq.heap.size, 0, none⟩) 2 2] 33)) := (Below.refl _ _).alloc (Nat.le_refl _) _
      rw [← HSV.out] at hg6 hn6
      have hMa := HM5.out.below hba
      have hx6 := hMa.xs_kept hk2 hg6
      have f4 := hx6.cell (two_get (f := sv) hk2)
      have hf4 := hx6.frozen k
      have HM6 := Lib.hid (hMa.app_s hk2 hr6 hg6 hkb6 (fun x hx => by rcases hn6 x hx with h | h; exact .inl h; exact .inr (by simp; omega)))
      have k3 := (Blw k2.out hba).grown hg6 (by have := hba.size; omega) (fun x hx => ((hMa.rs k hk2).lt x hx).1)
      have k4 : Hid (Below w.heap.size w (w6.setCell ⟨gs, k, none⟩ (.slice A6 N6 c6))) := Lib.hid (k3.setCell HGG.out.1 _)
      clear hr6 hg6 hkb6 hn6 hba hMa hx6 k3 HM5 HBV5 k2 HRS HML f3 hL6
      go_wp2
      go_meet
      exact ⟨_, _, _, _, _, _, _, HM6, HI6, k4⟩
     ·have f2 : wq.cell? ⟨ge, k, none⟩ = some (.pointer (some ⟨ef k, 0, none⟩)) := HM.out.xe.cell (two_get (f := pv ef) hk2)
      go_wp2_with fail
      refine (e2_out HM.out.en hk2 HB.out.size (HI.out.ok (by omega) HWR.out HK.out hk2)).mono ?_
      rintro e w5 ⟨v5, rfl, hr5, hE5, hT5⟩
      have HI5 := Lib.hid (HI.out.out hk2 HWR.out (by omega))
      obtain ⟨O, hO⟩ : ∃ O, O = K.out (Sf k) := ⟨_, rfl⟩
      rw [← hO] at hr5 HI5
      have HM5 := Lib.hid (HM.out.kt hT5 (hE5.sub (fun x hx => List.mem_append.2 (.inr hx))))
      have k2 := Lib.hid (HB.out.trans (hT5.below HB.out.size))
      obtain ⟨Ap, cp, rfl, hcp, hmp⟩ := hr5.form
      have HPB : Hid (∀ x, (Value.slice Ap O.length cp).ownBlock = some x → x ∉ ob u10 ∧ x ∉ ob u11) := Lib.hid (fun x hx => by
       have h1 := (hr5.lt x hx).1
       refine ⟨fun e => ?_, fun e => ?_⟩
       ·have := HM.out.lt x (by simp [Or.KS, e]); omega
       ·have := HM.out.lt x (by simp [Or.KS, e]); omega)
      have HR5 := Lib.hid hr5
      obtain ⟨pa, hpa⟩ : ∃ pa, pa = O.length := ⟨_, rfl⟩
      have HPA := Lib.hid hpa
      have hpb : pa ≤ 9223372036854775807 := by unfold maxLen at hmp; omega
      have HPC : Hid (P.length ≤ 1600) := Lib.hid (by have := HI.out.l.2; omega)
      have HOL : Hid (O.length ≤ 16 ∨ True) := Lib.hid (.inr trivial)
      have hO16 : pa ≤ 16 := by
       have := HI5.out.l.2
       rw [List.length_append] at this
       have h1 := HI.out.q k hk2
       rw [hpa, hO]
       unfold K.out
       split
       ·simp
       ·unfold K.outs K.outN
        rw [List.length_map, List.length_range, h1.1]
        have := HWR.out k
        omega
      obtain ⟨k', hk'⟩ : ∃ k', k' = 1 - k := ⟨_, rfl⟩
      have hk'2 : k' < 2 := by omega
      have hsub : IntKind.i64.wrap (1 - (k : Int)) = (k' : Int) := by rw [IntKind.wrap_i64]; omega
      have hsub2 : wrap64 (1 - (k : Int)) = (k' : Int) := by unfold wrap64; omega
      rw [← hk'] at HI5
      rw [← hpa] at HI5 ⊢
      have HTL : Hid (T.length = P.length) := Lib.hid HI.out.l.1
      clear hk' hr5 hE5 hT5 hO hcp hmp hpa f2 HM HB HI HOL
      go_wp2_with fail
      go_loopw [10, 11, 17] (fun s10 s11 s17 wr => ∃ j : Nat, j ≤ pa ∧ s17 = .int .i64 (j : Int) ∧ Hid (Or.Mem w.heap.size gs gg ge ef wr sv s10 s11 (K.upd Sf k { Sf k with owing := false }) Ms de (P ++ O.take j) (T ++ List.replicate j k')) ∧ Hid (RowV wq.heap.size wr (.slice Ap O.length cp) O) ∧ Hid (∀ x, (Value.slice Ap O.length cp).ownBlock = some x → x ∉ ob s10 ∧ x ∉ ob s11) ∧ Hid (Below w.heap.size w wr)) (fun _ _ ix _ => (pa - (intOf ix).toNat))
      case atStart => exact ⟨0, by omega, rfl, Lib.hid (by simpa using HM5.out), HR5, HPB, k2⟩
      case round =>
       clear HM5 HR5 HPB k2
       obtain ⟨j, hj2, rfl, HMJ, HRJ, HPJ, HBJ⟩ := hrel
       obtain ⟨wo, rfl⟩ : ∃ wo : World, wo = wr := ⟨_, rfl⟩
       by_cases hj : j < pa
       ·have hjd := decide_eq_true (show (j : Int) < (pa : Int) by omega)
        have hj3 : (j : Int) < (pa : Int) := by omega
        have hj4 : (0 : Int) ≤ (j : Int) := by omega
        obtain ⟨Pj, hPj⟩ : ∃ Q, O[j]? = some Q := ⟨_, List.getElem?_eq_getElem (by have := HPA.out; omega)⟩
        obtain ⟨gp, cq, u, ep, hcu, hbu, -, -⟩ := HRJ.out.at_ hPj
        have hap : Ap = some ⟨gp, 0, none⟩ := by injection ep
        subst hap
        have HBU := Lib.hid hbu
        obtain ⟨Au, cu, rfl, -⟩ := hbu
        obtain ⟨nu, hnu⟩ : ∃ n, n = Pj.length := ⟨_, rfl⟩
        rw [← hnu] at HBU hcu
        have HO1 : Hid (O.take (j + 1) = O.take j ++ [Pj]) := Lib.hid (by rw [List.take_add_one, hPj]; rfl)
        have hsz : w.heap.size ≤ wo.heap.size := HBJ.out.size
        clear hPj ep hnu
        go_wp2_with (at_builtin; refine wpList_appR rfl (.tmp 159) (.tmp 164) rfl rfl rfl (g := wo.heap.size) (base := w.heap.size) (by simp; omega) (HMJ.out.rp.below ((Below.refl _ _).alloc (Nat.le_refl _) _)) (Bx.at_ rfl) (HBU.out.below ((Below.refl _ _).alloc (Nat.le_refl _) _)) (by have := HPC.out; rw [List.length_append, List.length_take]; omega) ?_)
        intro v6 w6 hr6 hg6 hkb6 hn6
        have hba : Below wo.heap.size wo (wo.alloc (.cells #[.slice Au nu cu] 33)) := (Below.refl _ _).alloc (Nat.le_refl _) _
        have hMa := HMJ.out.below hba
        have HM6 := Lib.hid (hMa.app_p hr6 hg6 hkb6 (fun x hx => by rcases hn6 x hx with h | h; exact .inl h; exact .inr (by simp; omega)))
        have k3 := (Blw HBJ.out hba).grown hg6 (by have := hba.size; omega) (fun x hx => (hMa.rp.lt x hx).1)
        have k4 := Lib.hid k3
        have hR6 := (HRJ.out.below hba).kept hg6 (fun x hx e => (HPJ.out x hx).1 (mem_ob.2 e.symm)) hkb6
        have HR6 := Lib.hid hR6
        have HP6 : Hid (∀ x, (Value.slice (some ⟨gp, 0, none⟩) O.length cp).ownBlock = some x → x ∉ ob v6 ∧ x ∉ ob u11) := Lib.hid (fun x hx => ⟨fun e => by
         rcases hn6 x (mem_ob.1 e) with h | h
         ·exact (HPJ.out x hx).1 (mem_ob.2 h)
         ·have := (HRJ.out.lt x hx).2; have := hba.size; omega, (HPJ.out x hx).2⟩)
        have hsz6 : w.heap.size ≤ w6.heap.size := k3.size
        clear hr6 hg6 hkb6 hn6 hba hMa k3 hR6 HMJ HRJ HPJ HBJ HBU hcu
        go_wp2_with (at_builtin; refine wpList_appI (t := k') rfl (.tmp 166) (.tmp 169) rfl rfl rfl (g := w6.heap.size) (base := w.heap.size) (by simp; omega) (own_below HM6.out.rt ((Below.refl _ _).alloc (Nat.le_refl _) _)) (Bx.at_ rfl) (by have := HPC.out; have := HTL.out; rw [List.length_append, List.length_replicate]; omega) ?_)
        intro v7 w7 hr7 hg7 hkb7 hn7
        have hba : Below w6.heap.size w6 (w6.alloc (.cells #[tcell k'] 3)) := (Below.refl _ _).alloc (Nat.le_refl _) _
        have hMa := HM6.out.below hba
        have HM7 := Lib.hid (hMa.app_t (T' := (T ++ List.replicate j k') ++ [k']) (by simpa using hr7) hg7 hkb7 (fun x hx => by rcases hn7 x hx with h | h; exact .inl h; exact .inr (by simp; omega)))
        have k7 := Lib.hid ((Blw k4.out hba).grown hg7 (by have := hba.size; omega) (fun x hx => (hMa.rt.lt x hx).1))
        have HR7 := Lib.hid ((HR6.out.below hba).kept hg7 (fun x hx e => (HP6.out x hx).2 (mem_ob.2 e.symm)) hkb7)
        have HP7 : Hid (∀ x, (Value.slice (some ⟨gp, 0, none⟩) O.length cp).ownBlock = some x → x ∉ ob v6 ∧ x ∉ ob v7) := Lib.hid (fun x hx => ⟨(HP6.out x hx).1, fun e => by
         rcases hn7 x (mem_ob.1 e) with h | h
         ·exact (HP6.out x hx).2 (mem_ob.2 h)
         ·have := (HR6.out.lt x hx).2; have := hba.size; omega⟩)
        have HM8 : Hid (Or.Mem w.heap.size gs gg ge ef w7 sv v6 v7 (K.upd Sf k { Sf k with owing := false }) Ms de (P ++ O.take (j + 1)) (T ++ List.replicate (j + 1) k')) := Lib.hid (by
         have h := HM7.out
         rw [HO1.out, List.replicate_succ', ← List.append_assoc T]
         exact h)
        clear hr7 hg7 hkb7 hn7 hba hMa HM6 HM7 k4 HR6 HP6
        go_wp2
        exact ⟨⟨j + 1, by omega, by go_num, HM8, HR7, HP7, k7⟩, by simp [intOf]; omega⟩
       ·have hjd := decide_eq_false (show ¬ (j : Int) < (pa : Int) by omega)
        have hjp : j = pa := by omega
        rw [hjp] at HMJ
        have HM9 : Hid (Or.Mem w.heap.size gs gg ge ef wo sv u10 u11 (K.upd Sf k { Sf k with owing := false }) Ms de (P ++ O) (T ++ List.replicate pa k')) := Lib.hid (by
         have h := HMJ.out
         rwa [HPA.out, List.take_length, ← HPA.out] at h)
        clear hjp HMJ
        go_wp2
        go_meet
        exact ⟨_, _, _, _, _, _, _, HM9, HI5, HBJ⟩
     ·have f2 : wq.cell? ⟨ge, k, none⟩ = some (.pointer (some ⟨ef k, 0, none⟩)) := HM.out.xe.cell (two_get (f := pv ef) hk2)
      go_wp2_with fail
      refine (e2_out HM.out.en hk2 HB.out.size (HI.out.ok (by omega) HWR.out HK.out hk2)).mono ?_
      rintro e w5 ⟨v5, rfl, hr5, hE5, hT5⟩
      have HI5 := Lib.hid (HI.out.out hk2 HWR.out (by omega))
      obtain ⟨O, hO⟩ : ∃ O, O = K.out (Sf k) := ⟨_, rfl⟩
      rw [← hO] at hr5 HI5
      have HM5 := Lib.hid (HM.out.kt hT5 (hE5.sub (fun x hx => List.mem_append.2 (.inr hx))))
      have k2 := Lib.hid (HB.out.trans (hT5.below HB.out.size))
      obtain ⟨Ap, cp, rfl, hcp, hmp⟩ := hr5.form
      have HPB : Hid (∀ x, (Value.slice Ap O.length cp).ownBlock = some x → x ∉ ob u10 ∧ x ∉ ob u11) := Lib.hid (fun x hx => by
       have h1 := (hr5.lt x hx).1
       refine ⟨fun e => ?_, fun e => ?_⟩
       ·have := HM.out.lt x (by simp [Or.KS, e]); omega
       ·have := HM.out.lt x (by simp [Or.KS, e]); omega)
      have HR5 := Lib.hid hr5
      obtain ⟨pa, hpa⟩ : ∃ pa, pa = O.length := ⟨_, rfl⟩
      have HPA := Lib.hid hpa
      have hpb : pa ≤ 9223372036854775807 := by unfold maxLen at hmp; omega
      have HPC : Hid (P.length ≤ 1600) := Lib.hid (by have := HI.out.l.2; omega)
      have HOL : Hid (O.length ≤ 16 ∨ True) := Lib.hid (.inr trivial)
      have hO16 : pa ≤ 16 := by
       have := HI5.out.l.2
       rw [List.length_append] at this
       have h1 := HI.out.q k hk2
       rw [hpa, hO]
       unfold K.out
       split
       ·simp
       ·unfold K.outs K.outN
        rw [List.length_map, List.length_range, h1.1]
        have := HWR.out k
        omega
      obtain ⟨k', hk'⟩ : ∃ k', k' = 1 - k := ⟨_, rfl⟩
      have hk'2 : k' < 2 := by omega
      have hsub : IntKind.i64.wrap (1 - (k : Int)) = (k' : Int) := by rw [IntKind.wrap_i64]; omega
      have hsub2 : wrap64 (1 - (k : Int)) = (k' : Int) := by unfold wrap64; omega
      rw [← hk'] at HI5
      rw [← hpa] at HI5 ⊢
      have HTL : Hid (T.length = P.length) := Lib.hid HI.out.l.1
      clear hk' hr5 hE5 hT5 hO hcp hmp hpa f2 HM HB HI HOL
      go_wp2_with fail
      go_loopw [10, 11, 17] (fun s10 s11 s17 wr => ∃ j : Nat, j ≤ pa ∧ s17 = .int .i64 (j : Int) ∧ Hid (Or.Mem w.heap.size gs gg ge ef wr sv s10 s11 (K.upd Sf k { Sf k with owing := false }) Ms de (P ++ O.take j) (T ++ List.replicate j k')) ∧ Hid (RowV wq.heap.size wr (.slice Ap O.length cp) O) ∧ Hid (∀ x, (Value.slice Ap O.length cp).ownBlock = some x → x ∉ ob s10 ∧ x ∉ ob s11) ∧ Hid (Below w.heap.size w wr)) (fun _ _ ix _ => (pa - (intOf ix).toNat))
      case atStart => exact ⟨0, by omega, rfl, Lib.hid (by simpa using HM5.out), HR5, HPB, k2⟩
      case round =>
       clear HM5 HR5 HPB k2
       obtain ⟨j, hj2, rfl, HMJ, HRJ, HPJ, HBJ⟩ := hrel
       obtain ⟨wo, rfl⟩ : ∃ wo : World, wo = wr := ⟨_, rfl⟩
       by_cases hj : j < pa
       ·have hjd := decide_eq_true (show (j : Int) < (pa : Int) by omega)
        have hj3 : (j : Int) < (pa : Int) := by omega
        have hj4 : (0 : Int) ≤ (j : Int) := by omega
        obtain ⟨Pj, hPj⟩ : ∃ Q, O[j]? = some Q := ⟨_, List.getElem?_eq_getElem (by have := HPA.out; omega)⟩
        obtain ⟨gp, cq, u, ep, hcu, hbu, -, -⟩ := HRJ.out.at_ hPj
        have hap : Ap = some ⟨gp, 0, none⟩ := by injection ep
        subst hap
        have HBU := Lib.hid hbu
        obtain ⟨Au, cu, rfl, -⟩ := hbu
        obtain ⟨nu, hnu⟩ : ∃ n, n = Pj.length := ⟨_, rfl⟩
        rw [← hnu] at HBU hcu
        have HO1 : Hid (O.take (j + 1) = O.take j ++ [Pj]) := Lib.hid (by rw [List.take_add_one, hPj]; rfl)
        have hsz : w.heap.size ≤ wo.heap.size := HBJ.out.size
        clear hPj ep hnu
        go_wp2_with (at_builtin; refine wpList_appR rfl (.tmp 159) (.tmp 164) rfl rfl rfl (g := wo.heap.size) (base := w.heap.size) (by simp; omega) (HMJ.out.rp.below ((Below.refl _ _).alloc (Nat.le_refl _) _)) (Bx.at_ rfl) (HBU.out.below ((Below.refl _ _).alloc (Nat.le_refl _) _)) (by have := HPC.out; rw [List.length_append, List.length_take]; omega) ?_)
        intro v6 w6 hr6 hg6 hkb6 hn6
        have hba : Below wo.heap.size wo (wo.alloc (.cells #[.slice Au nu cu] 33)) := (Below.refl _ _).alloc (Nat.le_refl _) _
        have hMa := HMJ.out.below hba
        have HM6 := Lib.hid (hMa.app_p hr6 hg6 hkb6 (fun x hx => by rcases hn6 x hx with h | h; exact .inl h; exact .inr (by simp; omega)))
        have k3 := (Blw HBJ.out hba).grown hg6 (by have := hba.size; omega) (fun x hx => (hMa.rp.lt x hx).1)
        have k4 := Lib.hid k3
        have hR6 := (HRJ.out.below hba).kept hg6 (fun x hx e => (HPJ.out x hx).1 (mem_ob.2 e.symm)) hkb6
        have HR6 := Lib.hid hR6
        have HP6 : Hid (∀ x, (Value.slice (some ⟨gp, 0, none⟩) O.length cp).ownBlock = some x → x ∉ ob v6 ∧ x ∉ ob u11) := Lib.hid (fun x hx => ⟨fun e => by
         rcases hn6 x (mem_ob.1 e) with h | h
         ·exact (HPJ.out x hx).1 (mem_ob.2 h)
         ·have := (HRJ.out.lt x hx).2; have := hba.size; omega, (HPJ.out x hx).2⟩)
        have hsz6 : w.heap.size ≤ w6.heap.size := k3.size
        clear hr6 hg6 hkb6 hn6 hba hMa k3 hR6 HMJ HRJ HPJ HBJ HBU hcu
        go_wp2_with (at_builtin; refine wpList_appI (t := k') rfl (.tmp 166) (.tmp 169) rfl rfl rfl (g := w6.heap.size) (base := w.heap.size) (by simp; omega) (own_below HM6.out.rt ((Below.refl _ _).alloc (Nat.le_refl _) _)) (Bx.at_ rfl) (by have := HPC.out; have := HTL.out; rw [List.length_append, List.length_replicate]; omega) ?_)
        intro v7 w7 hr7 hg7 hkb7 hn7
        have hba : Below w6.heap.size w6 (w6.alloc (.cells #[tcell k'] 3)) := (Below.refl _ _).alloc (Nat.le_refl _) _
        have hMa := HM6.out.below hba
        have HM7 := Lib.hid (hMa.app_t (T' := (T ++ List.replicate j k') ++ [k']) (by simpa using hr7) hg7 hkb7 (fun x hx => by rcases hn7 x hx with h | h; exact .inl h; exact .inr (by simp; omega)))
        have k7 := Lib.hid ((Blw k4.out hba).grown hg7 (by have := hba.size; omega) (fun x hx => (hMa.rt.lt x hx).1))
        have HR7 := Lib.hid ((HR6.out.below hba).kept hg7 (fun x hx e => (HP6.out x hx).2 (mem_ob.2 e.symm)) hkb7)
        have HP7 : Hid (∀ x, (Value.slice (some ⟨gp, 0, none⟩) O.length cp).ownBlock = some x → x ∉ ob v6 ∧ x ∉ ob v7) := Lib.hid (fun x hx => ⟨(HP6.out x hx).1, fun e => by
         rcases hn7 x (mem_ob.1 e) with h | h
         ·exact (HP6.out x hx).2 (mem_ob.2 h)
         ·have := (HR6.out.lt x hx).2; have := hba.size; omega⟩)
        have HM8 : Hid (Or.Mem w.heap.size gs gg ge ef w7 sv v6 v7 (K.upd Sf k { Sf k with owing := false }) Ms de (P ++ O.take (j + 1)) (T ++ List.replicate (j + 1) k')) := Lib.hid (by
         have h := HM7.out
         rw [HO1.out, List.replicate_succ', ← List.append_assoc T]
         exact h)
        clear hr7 hg7 hkb7 hn7 hba hMa HM6 HM7 k4 HR6 HP6
        go_wp2
        exact ⟨⟨j + 1, by omega, by go_num, HM8, HR7, HP7, k7⟩, by simp [intOf]; omega⟩
       ·have hjd := decide_eq_false (show ¬ (j : Int) < (pa : Int) by omega)
        have hjp : j = pa := by omega
        rw [hjp] at HMJ
        have HM9 : Hid (Or.Mem w.heap.size gs gg ge ef wo sv u10 u11 (K.upd Sf k { Sf k with owing := false }) Ms de (P ++ O) (T ++ List.replicate pa k')) := Lib.hid (by
         have h := HMJ.out
         rwa [HPA.out, List.take_length, ← HPA.out] at h)
        clear hjp HMJ
        go_wp2
        go_meet
        exact ⟨_, _, _, _, _, _, _, HM9, HI5, HBJ⟩
     ·have kd : ((h : Int) == 0) = false := by rw [beq_eq_false_iff_ne]; omega
      have k9 : ((h : Int) == 1) = false := by rw [beq_eq_false_iff_ne]; omega
      have k6 : ((h : Int) == 2) = false := by rw [beq_eq_false_iff_ne]; omega
      have ke : ((h : Int) == 3) = false := by rw [beq_eq_false_iff_ne]; omega
      obtain ⟨Aq, cq, rfl, hcq, hmq⟩ := HM.out.rp.form
      obtain ⟨np, hnp⟩ : ∃ np, np = P.length := ⟨_, rfl⟩
      have HNP := Lib.hid hnp
      have hnpb : np ≤ 1600 := by have := HI.out.l.2; omega
      rw [← hnp] at HM ⊢
      clear hcq hmq hnp
      by_cases hp0 : np = 0
      ·have hpz : ((np : Int) == 0) = true := by rw [hp0]; rfl
       have HI6 := Lib.hid HI.out.skip
       clear hp0
       go_wp2
       exact ⟨⟨i + 1, sv, Sf, Ms, ac, de, P, T, by omega, by go_num, HM, HI6, HB⟩, by simp [intOf]; omega⟩
      ·have hpz : ((np : Int) == 0) = false := by rw [beq_eq_false_iff_ne]; omega
       obtain ⟨x, hx, hxp⟩ : ∃ x : Nat, (n : Int) / 2 % (np : Int) = (x : Int) ∧ x < np := ⟨n / 2 % np, by simp, Nat.mod_lt _ (by omega)⟩
       have hx3 : (x : Int) < (np : Int) := by omega
       have hx4 : (0 : Int) ≤ (x : Int) := by omega
       have hTn : T.length = np := by rw [HI.out.l.1]; exact HNP.out.symm
       obtain ⟨gt, ct, rfl, -, -, hgt, hgts⟩ := own_pos HM.out.rt (by omega)
       rw [hTn] at HM ⊢
       obtain ⟨t, ht⟩ : ∃ t, T[x]? = some t := ⟨_, List.getElem?_eq_getElem (by omega)⟩
       obtain ⟨PQ, hPQ⟩ : ∃ Q, P[x]? = some Q := ⟨_, List.getElem?_eq_getElem (by have := HNP.out; omega)⟩
       have f3 : wq.cell? ⟨gt, x, none⟩ = some (.int .i64 (t : Int)) := by
        have h := own_cells (by have h := HM.out.rt; rw [hTn] at h; exact h) x (tcell t) (by rw [List.getElem?_map, ht]; rfl)
        rw [Addr.add_lit, Nat.zero_add] at h
        exact h
       obtain ⟨ht2, hpk⟩ := HI.out.p x PQ t hPQ ht
       have ht3 : (t : Int) < 2 := by omega
       have ht4 : (0 : Int) ≤ (t : Int) := by omega
       obtain ⟨ms, S', ac', hinn, hm1, hm2, hI'⟩ := HI.out.inn (by omega) hPQ ht
       have HI6 := Lib.hid hI'
       have hlenQ := hpk.len
       have hokt := HI.out.ok (by omega) HWR.out HK.out ht2
       have hrp : RowV w.heap.size wq (.slice Aq P.length cq) P := by rw [← HNP.out]; exact HM.out.rp
       obtain ⟨gq, cq', u, ep, hcu, hbu, -, -⟩ := hrp.at_ hPQ
       have hap : Aq = some ⟨gq, 0, none⟩ := by injection ep
       subst hap
       have HBU := Lib.hid hbu
       obtain ⟨Au, cu, rfl, -⟩ := hbu
       obtain ⟨nu, hnu⟩ : ∃ n, n = PQ.length := ⟨_, rfl⟩
       rw [← hnu] at HBU hcu
       obtain ⟨KS, hKS⟩ : ∃ KS, KS = Or.KS sv (.slice (some ⟨gq, 0, none⟩) np cq) (.slice (some ⟨gt, 0, none⟩) np ct) gs gg ge := ⟨_, rfl⟩
       have hqK : gq ∈ KS := by rw [hKS]; simp [Or.KS, ob, Value.ownBlock]
       have heK : ge ∈ KS := by rw [hKS]; simp [Or.KS]
       have HKL : Hid (∀ y ∈ KS, y < wq.heap.size) := Lib.hid (by rw [hKS]; exact HM.out.lt)
       have HKS := Lib.hid hKS
       have HCE : Hid (∀ wx, KT w.heap.size KS wq wx → wx.cell? ⟨ge, t, none⟩ = some (.pointer (some ⟨ef t, 0, none⟩))) := Lib.hid (fun wx h => (h.bx heK HM.out.xe).cell (two_get (f := pv ef) ht2))
       have HCP : Hid (∀ wx, KT w.heap.size KS wq wx → wx.cell? ⟨gq, x, none⟩ = some (.slice Au nu cu)) := Lib.hid (fun wx h => (World.cell?_of_block (a := ⟨gq, x, none⟩) (h.row gq hqK (HKL.out gq hqK))).trans hcu)
       have HIN : Hid (∀ wx, Below wq.heap.size wq wx → Calls Try.prog 19 #[.pointer (some ⟨ef t, 0, none⟩), .slice Au nu cu] wx fun e w' => ∃ v, e = .returned v ∧ KT w.heap.size KS wx w' ∧ STup (SIn wq.heap.size w.heap.size KS wq ef (K.upd Sf t S') ms) 0 w' v) := Lib.hid (fun wx hb => by
        have hen := HM.out.en.below hb
        rw [← HKS.out] at hen
        have h := e2_in hen (k := t) ht2 (by have := hb.size; have := HB.out.size; omega) hokt (HBU.out.below hb) hlenQ
        rw [hinn] at h
        refine h.mono ?_
        rintro e w' ⟨v, rfl, h1, h2, h3⟩
        exact ⟨_, rfl, h3, v, rfl, h1.base hb.size, h2, (KT.of hb).trans h3⟩)
       have HM12 : Hid (de t + ms.length ≤ (Ms (1 - t)).length ∧ ∀ r, r < ms.length → ms[r]? = (Ms (1 - t))[de t + r]?) := Lib.hid ⟨hm1, hm2⟩
       clear hTn hgt hgts ht hPQ hpk hinn hm1 hm2 hI' hlenQ hokt hrp ep hcu hnu hKS hqK heK
       go_upto_region 17 with fail
       rw [hx]
       generalize hW_17 : wq.drew = W_17
       refine gen_act ?_
       intro F_ hF_
       have ev7 : F_.eval (.tmp 7) = .slice (some ⟨ge, 0, none⟩) 2 2 := by rw [← hF_]; rfl
       have ev10 : F_.eval (.tmp 10) = .slice (some ⟨gq, 0, none⟩) np cq := by rw [← hF_]; rfl
       have ev18 : F_.eval (.tmp 18) = .int .i64 (x : Int) := by rw [← hF_]; rfl
       have ev19 : F_.eval (.tmp 19) = .int .i64 (t : Int) := by rw [← hF_]; rfl
       have hsz_ : ∀ d ∈ ([(67, []), (68, []), (69, [0, 1]), (70, [2]), (71, []), (72, []), (73, [4, 5]), (74, [6]), (75, [3, 7]), (66, [8]), (76, [9]), (77, [9]), (20, [10])] : List (Nat × List Nat)).map (·.1), d < F_.tmps.size := by rw [← hF_]; simp
       have HF_ := Lib.hid hF_; clear hF_
       have hmU_ : ∀ kU_, kU_ ≠ 8 → kU_ ∉ ([] : List Nat) → kU_ ∉ ([9, 10, 11, 12] : List Nat) → MonoT (KT w.heap.size KS) (nthS [SC (.slice (some ⟨ge, 0, none⟩) 2 2), SC (.int .i64 (t : Int)), SC (.pointer (some ⟨ge, t, none⟩)), SC (.pointer (some ⟨ef t, 0, none⟩)), SC (.slice (some ⟨gq, 0, none⟩) np cq), SC (.int .i64 (x : Int)), SC (.pointer (some ⟨gq, x, none⟩)), SC (.slice Au nu cu), STup (SIn wq.heap.size w.heap.size KS wq ef (K.upd Sf t S') ms) 0, STup (SIn wq.heap.size w.heap.size KS wq ef (K.upd Sf t S') ms) 0, SIn wq.heap.size w.heap.size KS wq ef (K.upd Sf t S') ms, SC (.int .i64 0), SIn wq.heap.size w.heap.size KS wq ef (K.upd Sf t S') ms] kU_) := by
        intro kU_ h1 h2 h3
        match kU_, h1, h2, h3 with
        | 0, _, _, _ => exact (fun _ _ _ h _ => h)
        | 1, _, _, _ => exact (fun _ _ _ h _ => h)
        | 2, _, _, _ => exact (fun _ _ _ h _ => h)
        | 3, _, _, _ => exact (fun _ _ _ h _ => h)
        | 4, _, _, _ => exact (fun _ _ _ h _ => h)
        | 5, _, _, _ => exact (fun _ _ _ h _ => h)
        | 6, _, _, _ => exact (fun _ _ _ h _ => h)
        | 7, _, _, _ => exact (fun _ _ _ h _ => h)
        | 8, h1, _, _ => exact absurd rfl h1
        | 9, _, _, h3 => exact absurd (by decide) h3
        | 10, _, _, h3 => exact absurd (by decide) h3
        | 11, _, _, h3 => exact absurd (by decide) h3
        | 12, _, _, h3 => exact absurd (by decide) h3
        | kU_ + 13, _, _, _ => exact fun _ _ _ _ _ => trivial
       refine wp_flow_tabGU (T := KT w.heap.size KS) (KT.rel _ _) true hW_17 13 [(67, []), (68, []), (69, [0, 1]), (70, [2]), (71, []), (72, []), (73, [4, 5]), (74, [6]), (75, [3, 7]), (66, [8]), (76, [9]), (77, [9]), (20, [10])] [SC (.slice (some ⟨ge, 0, none⟩) 2 2), SC (.int .i64 (t : Int)), SC (.pointer (some ⟨ge, t, none⟩)), SC (.pointer (some ⟨ef t, 0, none⟩)), SC (.slice (some ⟨gq, 0, none⟩) np cq), SC (.int .i64 (x : Int)), SC (.pointer (some ⟨gq, x, none⟩)), SC (.slice Au nu cu), STup (SIn wq.heap.size w.heap.size KS wq ef (K.upd Sf t S') ms) 0, STup (SIn wq.heap.size w.heap.size KS wq ef (K.upd Sf t S') ms) 0, SIn wq.heap.size w.heap.size KS wq ef (K.upd Sf t S') ms, SC (.int .i64 0), SIn wq.heap.size w.heap.size KS wq ef (K.upd Sf t S') ms] [false, false, false, false, false, false, false, false, false, false, false, false, false] (by kernel_rfl) (by kernel_rfl) (by kernel_rfl) (by kernel_rfl) (by kernel_rfl) hsz_ 8 [] [9, 10, 11, 12] (by kernel_rfl) (by kernel_rfl) ⟨SC.mono _, SC.mono _, SC.mono _, SC.mono _, SC.mono _, SC.mono _, SC.mono _, SC.mono _, STup.mono _ (SIn.mono _ _ _ _ _ _ _), STup.mono _ (SIn.mono _ _ _ _ _ _ _), SIn.mono _ _ _ _ _ _ _, SC.mono _, SIn.mono _ _ _ _ _ _ _, trivial⟩ hmU_ ?_ ?_
       ·intro kq hkq a wx hB hBb hp hs
        have hBo : KT w.heap.size KS wq wx := dK hW_17 hB
        have hcase : kq = 0 ∨ kq = 1 ∨ kq = 2 ∨ kq = 3 ∨ kq = 4 ∨ kq = 5 ∨ kq = 6 ∨ kq = 7 ∨ kq = 8 ∨ kq = 9 ∨ kq = 10 ∨ kq = 11 ∨ kq = 12 := by omega
        rcases hcase with rfl | rfl | rfl | rfl | rfl | rfl | rfl | rfl | rfl | rfl | rfl | rfl | rfl
        ·clear hp
         exact ⟨_, rfl, .inr ⟨by decide, .inl ⟨wanted_none rfl, op_mv (s := SC _) rfl ((hs 7 rfl).trans ev7)⟩⟩⟩
        ·clear hp
         exact ⟨_, rfl, .inr ⟨by decide, .inl ⟨wanted_none rfl, op_mv (s := SC _) rfl ((hs 19 rfl).trans ev19)⟩⟩⟩
        ·obtain ⟨k0, k1, -⟩ := hp
         have e0 : a.eval (.tmp 67) = .slice (some ⟨ge, 0, none⟩) 2 2 := k0
         simp [Act.eval] at e0
         have e1 : a.eval (.tmp 68) = .int .i64 (t : Int) := k1
         simp [Act.eval] at e1
         exact ⟨_, rfl, .inr ⟨by decide, .inl ⟨wanted_none rfl, Does.val (by simp [execOp, Act.eval, e0, e1, go_sem, ht3, ht4]) rfl⟩⟩⟩
        ·obtain ⟨k0, -⟩ := hp
         have e0 : a.eval (.tmp 69) = .pointer (some ⟨ge, t, none⟩) := k0
         simp [Act.eval] at e0
         exact ⟨_, rfl, .inr ⟨by decide, .inl ⟨wanted_none rfl, Does.val (by simp [execOp, Act.eval, e0, go_sem, HCE.out wx hBo]) rfl⟩⟩⟩
        ·clear hp
         exact ⟨_, rfl, .inr ⟨by decide, .inl ⟨wanted_none rfl, op_mv (s := SC _) rfl ((hs 10 rfl).trans ev10)⟩⟩⟩
        ·clear hp
         exact ⟨_, rfl, .inr ⟨by decide, .inl ⟨wanted_none rfl, op_mv (s := SC _) rfl ((hs 18 rfl).trans ev18)⟩⟩⟩
        ·obtain ⟨k0, k1, -⟩ := hp
         have e0 : a.eval (.tmp 71) = .slice (some ⟨gq, 0, none⟩) np cq := k0
         simp [Act.eval] at e0
         have e1 : a.eval (.tmp 72) = .int .i64 (x : Int) := k1
         simp [Act.eval] at e1
         exact ⟨_, rfl, .inr ⟨by decide, .inl ⟨wanted_none rfl, Does.val (by simp [execOp, Act.eval, e0, e1, go_sem, hx3, hx4]) rfl⟩⟩⟩
        ·obtain ⟨k0, -⟩ := hp
         have e0 : a.eval (.tmp 73) = .pointer (some ⟨gq, x, none⟩) := k0
         simp [Act.eval] at e0
         exact ⟨_, rfl, .inr ⟨by decide, .inl ⟨wanted_none rfl, Does.val (by simp [execOp, Act.eval, e0, go_sem, HCP.out wx hBo]) rfl⟩⟩⟩
        ·obtain ⟨k0, k1, -⟩ := hp
         have hBk : Below wq.heap.size wq wx := dB hW_17 (hBb rfl)
         exact ⟨_, rfl, .inl ⟨rfl, .inl ⟨wanted_none rfl, DoesT.ru (f := 19) (call2 rfl (fun _ => by simp [go_sem]) k0 k1) (HIN.out wx hBk)⟩⟩⟩
        ·obtain ⟨k0, -⟩ := hp
         exact ⟨_, rfl, .inr ⟨by decide, .inl ⟨wanted_none rfl, op_mv rfl k0⟩⟩⟩
        ·obtain ⟨k0, -⟩ := hp
         exact ⟨_, rfl, .inr ⟨by decide, .inl ⟨wanted_none rfl, op_tx0 rfl k0⟩⟩⟩
        ·obtain ⟨k0, -⟩ := hp
         exact ⟨_, rfl, .inr ⟨by decide, .inl ⟨wanted_none rfl, op_tx1 rfl k0⟩⟩⟩
        ·obtain ⟨k0, -⟩ := hp
         exact ⟨_, rfl, .inr ⟨by decide, .inl ⟨wanted_none rfl, op_as rfl k0⟩⟩⟩
       ·intro val wx hB hsp hdis
        have hBo : KT w.heap.size KS wq wx := dK hW_17 hB
        have e11 : val 11 = .int .i64 0 := hsp 11 (by omega) (by decide)
        have h12 : (SIn wq.heap.size w.heap.size KS wq ef (K.upd Sf t S') ms) wx (val 12) := hsp 12 (by omega) (by decide)
        generalize e12 : val 12 = u12 at h12
        rw [← HF_.out]
        change wpList _ _ _ [_] _ _
        simp only [puts_consT, puts_nilm, vals, List.map_cons, List.map_nil, Nat.zero_add, Nat.reduceAdd, e11, e12, List.setIfInBounds_toArray, List.set_cons_succ, List.set_cons_zero]
        clear hsp hdis HF_ hsz_ hB hW_17 e11 e12 ev7 ev10 ev18 ev19
        obtain ⟨h1, h2, h3⟩ : SIn wq.heap.size w.heap.size KS wq ef (K.upd Sf t S') ms wx u12 := h12
        obtain ⟨w6, rfl⟩ : ∃ w6 : World, w6 = wx := ⟨_, rfl⟩
        obtain ⟨Ax, cx, rfl, hcx, hmx⟩ := h1.form
        have hk6 : KT w.heap.size (Or.KS sv (.slice (some ⟨gq, 0, none⟩) np cq) (.slice (some ⟨gt, 0, none⟩) np ct) gs gg ge) wq w6 := by rw [← HKS.out]; exact h3
        have he6 : E2 w.heap.size (Or.KS sv (.slice (some ⟨gq, 0, none⟩) np cq) (.slice (some ⟨gt, 0, none⟩) np ct) gs gg ge) w6 ef (K.upd Sf t S') := by rw [← HKS.out]; exact h2.sub (fun y hy => List.mem_append.2 (.inr hy))
        have HM6 := Lib.hid (HM.out.kt hk6 he6)
        have k4 := Lib.hid (HB.out.trans (h3.below HB.out.size))
        have HRX := Lib.hid h1
        have HXF : Hid (∀ y, (Value.slice Ax ms.length cx).ownBlock = some y → some y ≠ some gg) := Lib.hid (fun y hy e => by
         injection e with e
         have := (h1.lt y hy).1
         have := HKL.out gg (by rw [HKS.out]; simp [Or.KS])
         omega)
        obtain ⟨nx, hnx⟩ : ∃ nx, nx = ms.length := ⟨_, rfl⟩
        have HNX := Lib.hid hnx
        have hnxb : nx ≤ 81 := by have := HM12.out.1; have := (HI.out.m (1 - t) (by omega)).1; omega
        have hdb : de t + nx ≤ 81 := by have := HM12.out.1; have := (HI.out.m (1 - t) (by omega)).1; omega
        rw [← hnx]
        clear h1 h2 h3 hcx hmx hk6 he6 hnx hBo HCE HCP HIN HM HB HKL HKS HBU hmU_ HI
        go_wp2_with fail
        go_loopw [22] (fun s22 wr => ∃ r : Nat, r ≤ nx ∧ s22 = .int .i64 (r : Int) ∧ Hid (Or.Mem w.heap.size gs gg ge ef wr sv (.slice (some ⟨gq, 0, none⟩) np cq) (.slice (some ⟨gt, 0, none⟩) np ct) (K.upd Sf t S') Ms (K.upd de t (de t + r)) P T) ∧ Hid (RowV wq.heap.size wr (.slice Ax ms.length cx) ms) ∧ Hid (Below w.heap.size w wr)) (fun ix _ => (nx - (intOf ix).toNat))
        case atStart => exact ⟨0, by omega, rfl, Lib.hid (by rw [upd_0]; exact HM6.out), HRX, k4⟩
        case round =>
         clear HM6 HRX k4
         obtain ⟨r, hr2, rfl, HMR, HRR, HBR⟩ := hrel
         obtain ⟨wo, rfl⟩ : ∃ wo : World, wo = wr := ⟨_, rfl⟩
         by_cases hr : r < nx
         ·have hrd := decide_eq_true (show (r : Int) < (nx : Int) by omega)
          have hr3 : (r : Int) < (nx : Int) := by omega
          have hr4 : (0 : Int) ≤ (r : Int) := by omega
          obtain ⟨Q, hQ⟩ : ∃ Q, Q = de t + r := ⟨_, rfl⟩
          have hQb : Q ≤ 81 := by omega
          obtain ⟨t', ht'⟩ : ∃ t', t' = 1 - t := ⟨_, rfl⟩
          have ht'2 : t' < 2 := by omega
          have ht'3 : (t' : Int) < 2 := by omega
          have ht'4 : (0 : Int) ≤ (t' : Int) := by omega
          have hsub : IntKind.i64.wrap (1 - (t : Int)) = (t' : Int) := by rw [IntKind.wrap_i64]; omega
          have hm2 := HM12.out.2 r (by have := HNX.out; omega)
          have hm1 := HM12.out.1
          rw [← ht', ← hQ] at hm2
          rw [← ht'] at hm1
          rw [← hQ] at HMR
          obtain ⟨Lr, hLr⟩ : ∃ L, ms[r]? = some L := ⟨_, List.getElem?_eq_getElem (by have := HNX.out; omega)⟩
          rw [hLr] at hm2
          obtain ⟨gx, cq2, u2, ep, hcu, hbu, -, -⟩ := HRR.out.at_ hLr
          have hap : Ax = some ⟨gx, 0, none⟩ := by injection ep
          subst hap
          obtain ⟨gr, cs, v2, es, hcv, hbv, hcs, hms⟩ := (HMR.out.rs t' ht'2).at_ hm2.symm
          obtain ⟨ns, hns⟩ : ∃ ns, ns = (Ms t').length := ⟨_, rfl⟩
          rw [← hns] at es hm1
          have hQn : Q < ns := by have := HNX.out; omega
          have hQ3 : (Q : Int) < (ns : Int) := by omega
          have hQ4 : (0 : Int) ≤ (Q : Int) := by omega
          have hgeN : ¬ ns ≤ Q := by omega
          have HBU := Lib.hid hbu; have HBV := Lib.hid hbv
          obtain ⟨Au2, cu2, rfl, -⟩ := hbu
          obtain ⟨Av2, cv2, rfl, -⟩ := hbv
          have HCX : Hid (∀ wx, Below wo.heap.size wo wx → wx.cell? ⟨gx, r, none⟩ = some (.slice Au2 Lr.length cu2)) := Lib.hid (fun wx hb => (hb.cell (p := ⟨gx, r, none⟩) (World.block_lt_of_cell? wo ⟨gx, r, none⟩ hcu)).trans hcu)
          have HCM : Hid (∀ wx, Below wo.heap.size wo wx → wx.cell? ⟨gr, Q, none⟩ = some (.slice Av2 Lr.length cv2)) := Lib.hid (fun wx hb => (hb.cell (p := ⟨gr, Q, none⟩) (World.block_lt_of_cell? wo ⟨gr, Q, none⟩ hcv)).trans hcv)
          have HCS : Hid (∀ wx, Below wo.heap.size wo wx → wx.cell? ⟨gs, t', none⟩ = some (.slice (some ⟨gr, 0, none⟩) ns cs)) := Lib.hid (fun wx hb => by rw [← es]; exact (HMR.out.xs.below hb).cell (two_get (f := sv) ht'2))
          have HCG : Hid (∀ wx, Below wo.heap.size wo wx → wx.cell? ⟨gg, t, none⟩ = some (.int .i64 (Q : Int))) := Lib.hid (fun wx hb => by
           have h := (HMR.out.xg.below hb).cell (two_get (f := iv (K.upd de t Q)) ht2)
           unfold iv at h
           rwa [upd_eq] at h)
          have HSM : Hid (∀ wx, Below wo.heap.size wo wx → Calls Try.prog 29 #[.slice Au2 Lr.length cu2, .slice Av2 Lr.length cv2] wx fun e w' => e = .returned (.bool true) ∧ Below wx.heap.size wx w') := Lib.hid (fun wx hb => by
           have h := same_bv (HBU.out.below hb) (HBV.out.below hb)
           rw [decide_eq_true rfl] at h
           exact h.mono fun e w' ⟨h3, n, h4⟩ => ⟨h3, by subst h4; exact bdN (Below.refl _ _) n⟩)
          have HQ := Lib.hid hQ
          obtain ⟨nl, hnl⟩ : ∃ nl, nl = Lr.length := ⟨_, rfl⟩
          rw [← hnl] at HCX HCM HSM
          clear hm1 hm2 hLr ep hcu es hcv hcs hms hns hnl hQ ht' HBU HBV hQn
          go_upto_region 23 with fail
          generalize hW_23 : wo.drew = W_23
          refine gen_act ?_
          intro F_ hF_
          have ev8 : F_.eval (.tmp 8) = .slice (some ⟨gs, 0, none⟩) 2 2 := by rw [← hF_]; rfl
          have ev9 : F_.eval (.tmp 9) = .slice (some ⟨gg, 0, none⟩) 2 2 := by rw [← hF_]; rfl
          have ev19 : F_.eval (.tmp 19) = .int .i64 (t : Int) := by rw [← hF_]; rfl
          have ev20 : F_.eval (.tmp 20) = .slice (some ⟨gx, 0, none⟩) nx cx := by rw [← hF_]; rfl
          have ev22 : F_.eval (.tmp 22) = .int .i64 (r : Int) := by rw [← hF_]; rfl
          have hsz_ : ∀ d ∈ ([(86, []), (87, []), (88, [0, 1]), (89, [2]), (90, []), (91, []), (92, [5]), (93, [4, 6]), (94, [7]), (95, [8]), (96, [3, 9]), (97, [10]), (98, [11]), (99, [11]), (100, [12, 13, 11]), (101, [14, 11]), (102, [11]), (103, [11]), (104, [17, 11]), (105, [16, 18, 11]), (106, [19, 11]), (107, [11]), (108, [11]), (109, [21, 22, 11]), (110, [23, 11]), (111, [20, 24, 11]), (112, [25, 11]), (113, [15, 26, 11]), (114, [27, 11]), (115, [11, 28])] : List (Nat × List Nat)).map (·.1), d < F_.tmps.size := by rw [← hF_]; simp
          have HF_ := Lib.hid hF_; clear hF_
          refine wp_flow_tabG true hW_23 30 [(86, []), (87, []), (88, [0, 1]), (89, [2]), (90, []), (91, []), (92, [5]), (93, [4, 6]), (94, [7]), (95, [8]), (96, [3, 9]), (97, [10]), (98, [11]), (99, [11]), (100, [12, 13, 11]), (101, [14, 11]), (102, [11]), (103, [11]), (104, [17, 11]), (105, [16, 18, 11]), (106, [19, 11]), (107, [11]), (108, [11]), (109, [21, 22, 11]), (110, [23, 11]), (111, [20, 24, 11]), (112, [25, 11]), (113, [15, 26, 11]), (114, [27, 11]), (115, [11, 28])] [SC (.slice (some ⟨gg, 0, none⟩) 2 2), SC (.int .i64 (t : Int)), SC (.pointer (some ⟨gg, t, none⟩)), SC (.int .i64 (Q : Int)), SC (.slice (some ⟨gs, 0, none⟩) 2 2), SC (.int .i64 (t : Int)), SC (.int .i64 (t' : Int)), SC (.pointer (some ⟨gs, t', none⟩)), SC (.slice (some ⟨gr, 0, none⟩) ns cs), SC (.int .i64 ((ns : Nat) : Int)), SC (.bool false), SC (.bool false), SC (.slice (some ⟨gx, 0, none⟩) nx cx), SC (.int .i64 (r : Int)), SC (.pointer (some ⟨gx, r, none⟩)), SC (.slice Au2 nl cu2), SC (.slice (some ⟨gs, 0, none⟩) 2 2), SC (.int .i64 (t : Int)), SC (.int .i64 (t' : Int)), SC (.pointer (some ⟨gs, t', none⟩)), SC (.slice (some ⟨gr, 0, none⟩) ns cs), SC (.slice (some ⟨gg, 0, none⟩) 2 2), SC (.int .i64 (t : Int)), SC (.pointer (some ⟨gg, t, none⟩)), SC (.int .i64 (Q : Int)), SC (.pointer (some ⟨gr, Q, none⟩)), SC (.slice Av2 nl cv2), SC (.bool true), SC (.bool false), SC (.bool false)] [false, false, false, false, false, false, false, false, false, false, false, false, false, false, false, false, false, false, false, false, false, false, false, false, false, false, false, false, false, false] (by kernel_rfl) (by kernel_rfl) (by kernel_rfl) (by kernel_rfl) (by kernel_rfl) hsz_ ⟨SC.mono _, SC.mono _, SC.mono _, SC.mono _, SC.mono _, SC.mono _, SC.mono _, SC.mono _, SC.mono _, SC.mono _, SC.mono _, SC.mono _, SC.mono _, SC.mono _, SC.mono _, SC.mono _, SC.mono _, SC.mono _, SC.mono _, SC.mono _, SC.mono _, SC.mono _, SC.mono _, SC.mono _, SC.mono _, SC.mono _, SC.mono _, SC.mono _, SC.mono _, SC.mono _, trivial⟩ ?_ ?_
          ·intro kq hkq a wx hB hp hs
           have hBo : Below wo.heap.size wo wx := dB hW_23 hB
           have hcase : kq = 0 ∨ kq = 1 ∨ kq = 2 ∨ kq = 3 ∨ kq = 4 ∨ kq = 5 ∨ kq = 6 ∨ kq = 7 ∨ kq = 8 ∨ kq = 9 ∨ kq = 10 ∨ kq = 11 ∨ kq = 12 ∨ kq = 13 ∨ kq = 14 ∨ kq = 15 ∨ kq = 16 ∨ kq = 17 ∨ kq = 18 ∨ kq = 19 ∨ kq = 20 ∨ kq = 21 ∨ kq = 22 ∨ kq = 23 ∨ kq = 24 ∨ kq = 25 ∨ kq = 26 ∨ kq = 27 ∨ kq = 28 ∨ kq = 29 := by omega
           rcases hcase with rfl | rfl | rfl | rfl | rfl | rfl | rfl | rfl | rfl | rfl | rfl | rfl | rfl | rfl | rfl | rfl | rfl | rfl | rfl | rfl | rfl | rfl | rfl | rfl | rfl | rfl | rfl | rfl | rfl | rfl
           ·clear hp
            exact ⟨_, rfl, .inl ⟨wanted_none rfl, op_mv (s := SC _) rfl ((hs 9 rfl).trans ev9)⟩⟩
           ·clear hp
            exact ⟨_, rfl, .inl ⟨wanted_none rfl, op_mv (s := SC _) rfl ((hs 19 rfl).trans ev19)⟩⟩
           ·obtain ⟨k0, k1, -⟩ := hp
            have e0 : a.eval (.tmp 86) = .slice (some ⟨gg, 0, none⟩) 2 2 := k0
            simp [Act.eval] at e0
            have e1 : a.eval (.tmp 87) = .int .i64 (t : Int) := k1
            simp [Act.eval] at e1
            exact ⟨_, rfl, .inl ⟨wanted_none rfl, Does.val (by simp [execOp, Act.eval, e0, e1, go_sem, ht3, ht4]) rfl⟩⟩
           ·obtain ⟨k0, -⟩ := hp
            have e0 : a.eval (.tmp 88) = .pointer (some ⟨gg, t, none⟩) := k0
            simp [Act.eval] at e0
            exact ⟨_, rfl, .inl ⟨wanted_none rfl, Does.val (by simp [execOp, Act.eval, e0, go_sem, HCG.out wx hBo]) rfl⟩⟩
           ·clear hp
            exact ⟨_, rfl, .inl ⟨wanted_none rfl, op_mv (s := SC _) rfl ((hs 8 rfl).trans ev8)⟩⟩
           ·clear hp
            exact ⟨_, rfl, .inl ⟨wanted_none rfl, op_mv (s := SC _) rfl ((hs 19 rfl).trans ev19)⟩⟩
           ·obtain ⟨k0, -⟩ := hp
            have e0 : a.eval (.tmp 91) = .int .i64 (t : Int) := k0
            simp [Act.eval] at e0
            exact ⟨_, rfl, .inl ⟨wanted_none rfl, Does.val (by simp [execOp, Act.eval, e0, go_sem, hsub]) rfl⟩⟩
           ·obtain ⟨k0, k1, -⟩ := hp
            have e0 : a.eval (.tmp 90) = .slice (some ⟨gs, 0, none⟩) 2 2 := k0
            simp [Act.eval] at e0
            have e1 : a.eval (.tmp 92) = .int .i64 (t' : Int) := k1
            simp [Act.eval] at e1
            exact ⟨_, rfl, .inl ⟨wanted_none rfl, Does.val (by simp [execOp, Act.eval, e0, e1, go_sem, ht'3, ht'4]) rfl⟩⟩
           ·obtain ⟨k0, -⟩ := hp
            have e0 : a.eval (.tmp 93) = .pointer (some ⟨gs, t', none⟩) := k0
            simp [Act.eval] at e0
            exact ⟨_, rfl, .inl ⟨wanted_none rfl, Does.val (by simp [execOp, Act.eval, e0, go_sem, HCS.out wx hBo]) rfl⟩⟩
           ·obtain ⟨k0, -⟩ := hp
            have e0 : a.eval (.tmp 94) = .slice (some ⟨gr, 0, none⟩) ns cs := k0
            simp [Act.eval] at e0
            exact ⟨_, rfl, .inl ⟨wanted_none rfl, Does.val (by simp [execOp, Act.eval, e0, go_sem]) rfl⟩⟩
           ·obtain ⟨k0, k1, -⟩ := hp
            have e0 : a.eval (.tmp 89) = .int .i64 (Q : Int) := k0
            simp [Act.eval] at e0
            have e1 : a.eval (.tmp 95) = .int .i64 ((ns : Nat) : Int) := k1
            simp [Act.eval] at e1
            exact ⟨_, rfl, .inl ⟨wanted_none rfl, Does.val (by simp [execOp, Act.eval, e0, e1, go_sem, hgeN]) rfl⟩⟩
           ·obtain ⟨k0, -⟩ := hp
            exact ⟨_, rfl, .inl ⟨wanted_none rfl, op_mv (s := SC _) rfl k0⟩⟩
           ·obtain ⟨k0, -⟩ := hp
            have hgd : a.eval (.tmp 97) = .bool false := k0
            exact ⟨_, rfl, .inl ⟨(wanted_of rfl rfl hgd).trans rfl, op_mv (s := SC _) rfl ((hs 20 rfl).trans ev20)⟩⟩
           ·obtain ⟨k0, -⟩ := hp
            have hgd : a.eval (.tmp 97) = .bool false := k0
            exact ⟨_, rfl, .inl ⟨(wanted_of rfl rfl hgd).trans rfl, op_mv (s := SC _) rfl ((hs 22 rfl).trans ev22)⟩⟩
           ·obtain ⟨k0, k1, k5, -⟩ := hp
            have hgd : a.eval (.tmp 97) = .bool false := k5
            have e0 : a.eval (.tmp 98) = .slice (some ⟨gx, 0, none⟩) nx cx := k0
            simp [Act.eval] at e0
            have e1 : a.eval (.tmp 99) = .int .i64 (r : Int) := k1
            simp [Act.eval] at e1
            exact ⟨_, rfl, .inl ⟨(wanted_of rfl rfl hgd).trans rfl, Does.val (by simp [execOp, Act.eval, e0, e1, go_sem, hr3, hr4]) rfl⟩⟩
           ·obtain ⟨k0, k1, -⟩ := hp
            have hgd : a.eval (.tmp 97) = .bool false := k1
            have e0 : a.eval (.tmp 100) = .pointer (some ⟨gx, r, none⟩) := k0
            simp [Act.eval] at e0
            exact ⟨_, rfl, .inl ⟨(wanted_of rfl rfl hgd).trans rfl, Does.val (by simp [execOp, Act.eval, e0, go_sem, HCX.out wx hBo]) rfl⟩⟩
           ·obtain ⟨k0, -⟩ := hp
            have hgd : a.eval (.tmp 97) = .bool false := k0
            exact ⟨_, rfl, .inl ⟨(wanted_of rfl rfl hgd).trans rfl, op_mv (s := SC _) rfl ((hs 8 rfl).trans ev8)⟩⟩
           ·obtain ⟨k0, -⟩ := hp
            have hgd : a.eval (.tmp 97) = .bool false := k0
            exact ⟨_, rfl, .inl ⟨(wanted_of rfl rfl hgd).trans rfl, op_mv (s := SC _) rfl ((hs 19 rfl).trans ev19)⟩⟩
           ·obtain ⟨k0, k1, -⟩ := hp
            have hgd : a.eval (.tmp 97) = .bool false := k1
            have e0 : a.eval (.tmp 103) = .int .i64 (t : Int) := k0
            simp [Act.eval] at e0
            exact ⟨_, rfl, .inl ⟨(wanted_of rfl rfl hgd).trans rfl, Does.val (by simp [execOp, Act.eval, e0, go_sem, hsub]) rfl⟩⟩
           ·obtain ⟨k0, k1, k5, -⟩ := hp
            have hgd : a.eval (.tmp 97) = .bool false := k5
            have e0 : a.eval (.tmp 102) = .slice (some ⟨gs, 0, none⟩) 2 2 := k0
            simp [Act.eval] at e0
            have e1 : a.eval (.tmp 104) = .int .i64 (t' : Int) := k1
            simp [Act.eval] at e1
            exact ⟨_, rfl, .inl ⟨(wanted_of rfl rfl hgd).trans rfl, Does.val (by simp [execOp, Act.eval, e0, e1, go_sem, ht'3, ht'4]) rfl⟩⟩
           ·obtain ⟨k0, k1, -⟩ := hp
            have hgd : a.eval (.tmp 97) = .bool false := k1
            have e0 : a.eval (.tmp 105) = .pointer (some ⟨gs, t', none⟩) := k0
            simp [Act.eval] at e0
            exact ⟨_, rfl, .inl ⟨(wanted_of rfl rfl hgd).trans rfl, Does.val (by simp [execOp, Act.eval, e0, go_sem, HCS.out wx hBo]) rfl⟩⟩
           ·obtain ⟨k0, -⟩ := hp
            have hgd : a.eval (.tmp 97) = .bool false := k0
            exact ⟨_, rfl, .inl ⟨(wanted_of rfl rfl hgd).trans rfl, op_mv (s := SC _) rfl ((hs 9 rfl).trans ev9)⟩⟩
           ·obtain ⟨k0, -⟩ := hp
            have hgd : a.eval (.tmp 97) = .bool false := k0
            exact ⟨_, rfl, .inl ⟨(wanted_of rfl rfl hgd).trans rfl, op_mv (s := SC _) rfl ((hs 19 rfl).trans ev19)⟩⟩
           ·obtain ⟨k0, k1, k5, -⟩ := hp
            have hgd : a.eval (.tmp 97) = .bool false := k5
            have e0 : a.eval (.tmp 107) = .slice (some ⟨gg, 0, none⟩) 2 2 := k0
            simp [Act.eval] at e0
            have e1 : a.eval (.tmp 108) = .int .i64 (t : Int) := k1
            simp [Act.eval] at e1
            exact ⟨_, rfl, .inl ⟨(wanted_of rfl rfl hgd).trans rfl, Does.val (by simp [execOp, Act.eval, e0, e1, go_sem, ht3, ht4]) rfl⟩⟩
           ·obtain ⟨k0, k1, -⟩ := hp
            have hgd : a.eval (.tmp 97) = .bool false := k1
            have e0 : a.eval (.tmp 109) = .pointer (some ⟨gg, t, none⟩) := k0
            simp [Act.eval] at e0
            exact ⟨_, rfl, .inl ⟨(wanted_of rfl rfl hgd).trans rfl, Does.val (by simp [execOp, Act.eval, e0, go_sem, HCG.out wx hBo]) rfl⟩⟩
           ·obtain ⟨k0, k1, k5, -⟩ := hp
            have hgd : a.eval (.tmp 97) = .bool false := k5
            have e0 : a.eval (.tmp 106) = .slice (some ⟨gr, 0, none⟩) ns cs := k0
            simp [Act.eval] at e0
            have e1 : a.eval (.tmp 110) = .int .i64 (Q : Int) := k1
            simp [Act.eval] at e1
            exact ⟨_, rfl, .inl ⟨(wanted_of rfl rfl hgd).trans rfl, Does.val (by simp [execOp, Act.eval, e0, e1, go_sem, hQ3, hQ4]) rfl⟩⟩
           ·obtain ⟨k0, k1, -⟩ := hp
            have hgd : a.eval (.tmp 97) = .bool false := k1
            have e0 : a.eval (.tmp 111) = .pointer (some ⟨gr, Q, none⟩) := k0
            simp [Act.eval] at e0
            exact ⟨_, rfl, .inl ⟨(wanted_of rfl rfl hgd).trans rfl, Does.val (by simp [execOp, Act.eval, e0, go_sem, HCM.out wx hBo]) rfl⟩⟩
           ·obtain ⟨k0, k1, k5, -⟩ := hp
            have hgd : a.eval (.tmp 97) = .bool false := k5
            exact ⟨_, rfl, .inl ⟨(wanted_of rfl rfl hgd).trans rfl, Does.rc (f := 29) (call2 rfl (fun _ => by simp [go_sem]) k0 k1) (HSM.out wx hBo)⟩⟩
           ·obtain ⟨k0, k1, -⟩ := hp
            have hgd : a.eval (.tmp 97) = .bool false := k1
            have e0 : a.eval (.tmp 113) = .bool true := k0
            simp [Act.eval] at e0
            exact ⟨_, rfl, .inl ⟨(wanted_of rfl rfl hgd).trans rfl, Does.val (by simp [execOp, Act.eval, e0, go_sem]) rfl⟩⟩
           ·obtain ⟨k0, k1, -⟩ := hp
            have e0 : a.eval (.tmp 97) = .bool false := k0
            simp [Act.eval] at e0
            have e1 : a.eval (.tmp 114) = .bool false := k1
            simp [Act.eval] at e1
            exact ⟨_, rfl, .inl ⟨wanted_none rfl, Does.val (by simp [execOp, Act.eval, e0, e1, go_sem]) rfl⟩⟩
          ·intro val wx hB hsp hdis
           have hBo : Below wo.heap.size wo wx := dB hW_23 hB
           have e29 : val 29 = .bool false := hsp 29 (by omega)
           rw [← HF_.out]
           change wpList _ _ _ [] _ _
           simp only [puts_consT, puts_nilm, vals, List.map_cons, List.map_nil, Nat.zero_add, Nat.reduceAdd, e29, List.setIfInBounds_toArray, List.set_cons_succ, List.set_cons_zero]
           clear hsp hdis HF_ hsz_ hB hW_23 e29 ev8 ev9 ev19 ev20 ev22
           obtain ⟨w7, rfl⟩ : ∃ w7 : World, w7 = wx := ⟨_, rfl⟩
           have hm7 := HMR.out.below hBo
           have kf := HCG.out w7 hBo
           have hf7 := hm7.xg.frozen t
           have HM7 := Lib.hid hm7
           have HR7 := Lib.hid (HRR.out.below hBo)
           have k7 := Lib.hid (Blw HBR.out hBo)
           clear hBo hm7 HCX HCM HCS HCG HSM HMR HRR HBR
           go_wp2_with fail
           refine ⟨⟨r + 1, by omega, by go_num, Lib.hid ?_, Lib.hid ?_, Lib.hid (k7.out.setCell HGG.out.2 _)⟩, by simp [intOf]; omega⟩
           ·have h := HM7.out.put_g (k := t) (y := Q + 1) ht2 (u := .int .i64 ((Q : Int) + 1)) rfl
            rw [upd_upd, HQ.out] at h
            rw [HQ.out]
            exact h
           ·exact HR7.out.kept (grownBy_set _ _ _ _) HXF.out ((KB.refl _).set_ HM7.out.xg (by decide) _)
         ·have hrd := decide_eq_false (show ¬ (r : Int) < (nx : Int) by omega)
          have hrn : r = ms.length := by have := HNX.out; omega
          rw [hrn] at HMR
          clear hrn
          go_wp2
          go_meet
          exact ⟨_, _, _, _, _, _, _, HMR, HI6, HBR⟩
    case rest =>
     obtain ⟨sv, Sf, Ms, ac, de, P, T, HM, HI, HB⟩ := hcut
     obtain ⟨w13, rfl⟩ : ∃ w13 : World, w13 = wc := ⟨_, rfl⟩
     go_wp2_with fail
     go_loopw [23] (fun s23 wr => ∃ j : Nat, j ≤ 2 ∧ s23 = .int .i64 (j : Int) ∧ Hid (Below w13.heap.size w13 wr)) (fun ix _ => (2 - (intOf ix).toNat))
     case atStart => exact ⟨0, by omega, rfl, Lib.hid (Below.refl _ _)⟩
     case round =>
      obtain ⟨j, hj2, rfl, HBJ⟩ := hrel
      obtain ⟨wo, rfl⟩ : ∃ wo : World, wo = wr := ⟨_, rfl⟩
      by_cases hj : j < 2
      ·have hjd := decide_eq_true (show (j : Int) < 2 by omega)
       have hj3 : (j : Int) < 2 := by omega
       have hj4 : (0 : Int) ≤ (j : Int) := by omega
       have hmj := HM.out.below HBJ.out
       have hen := HI.out.e j hj
       obtain ⟨As, cs, hsv, -, -⟩ := (hmj.rs j hj).form
       obtain ⟨ns, hns⟩ : ∃ ns, ns = (Ms j).length := ⟨_, rfl⟩
       obtain ⟨wl, hwl⟩ : ∃ wl, wl = (Sf j).wait.length := ⟨_, rfl⟩
       obtain ⟨dj, hdj⟩ : ∃ dj, dj = de (1 - j) := ⟨_, rfl⟩
       obtain ⟨j', hj'⟩ : ∃ j', j' = 1 - j := ⟨_, rfl⟩
       rw [← hns] at hsv
       have hw1 : wl = ns - ac j := by rw [hwl, hen.w, List.length_drop, hns]
       have hac1 := hen.a1
       have hac2 := hen.a2
       rw [← hdj] at hac1 hac2
       rw [← hns] at hac2
       have hnb : ns ≤ 81 := by have := (HI.out.m j hj).1; omega
       have hx1 : ¬ ns < wl := by omega
       have hsub3 : IntKind.i64.wrap ((ns : Int) - (dj : Int)) = (ns : Int) - (dj : Int) := by rw [IntKind.wrap_i64]; omega
       have hx2 : ¬ (wl : Int) < (ns : Int) - (dj : Int) := by omega
       have hsub : IntKind.i64.wrap (1 - (j : Int)) = (j' : Int) := by rw [IntKind.wrap_i64]; omega
       have hj'2 : j' < 2 := by omega
       have hj'3 : (j' : Int) < 2 := by omega
       have hj'4 : (0 : Int) ≤ (j' : Int) := by omega
       have HCE : Hid (∀ wx, Below wo.heap.size wo wx → wx.cell? ⟨ge, j, none⟩ = some (.pointer (some ⟨ef j, 0, none⟩))) := Lib.hid (fun wx hb => (hmj.xe.below hb).cell (two_get (f := pv ef) hj))
       have HCS : Hid (∀ wx, Below wo.heap.size wo wx → wx.cell? ⟨gs, j, none⟩ = some (.slice As ns cs)) := Lib.hid (fun wx hb => by rw [← hsv]; exact (hmj.xs.below hb).cell (two_get (f := sv) hj))
       have HCG : Hid (∀ wx, Below wo.heap.size wo wx → wx.cell? ⟨gg, j', none⟩ = some (.int .i64 (dj : Int))) := Lib.hid (fun wx hb => by rw [hdj, ← hj']; exact (hmj.xg.below hb).cell (two_get (f := iv de) hj'2))
       have HWT : Hid (∀ wx, Below wo.heap.size wo wx → Calls Try.prog 21 #[.pointer (some ⟨ef j, 0, none⟩)] wx fun e w' => e = .returned (.int .i64 (wl : Int)) ∧ wx = w') := Lib.hid (fun wx hb => by
        have h := e2_wait (hmj.en.below hb) (k := j) hj
        rwa [← hwl] at h)
       have HFG : Hid (∀ wx, Below wo.heap.size wo wx → Calls Try.prog 22 #[.pointer (some ⟨ef j, 0, none⟩)] wx fun e w' => e = .returned (.int .i64 0) ∧ wx = w') := Lib.hid (fun wx hb => by
        have h := e2_forg (hmj.en.below hb) (k := j) hj
        rwa [hen.f] at h)
       clear hmj hen hsv hns hwl hdj hj' hw1 hac1 hac2
       go_upto_region 43 with fail
       refine or_reg43 wo ge gs gg j j' ns cs wl dj ef As hj3 hj4 hj'3 hj'4 hsub hsub3 hx1 hx2 HCE HCS HCG HWT HFG _ _ _ _ _ _ _ _ _ _ _ _ _ _ _ _ _ _ _ _ _ _ _ _ _ _ _ _ _ _ _ _ _ _ _ _ _ _ _ _ _ _ _ _ _ _ _ _ _ _ _ _ _ _ _ _ _ _ _ _ _ _ _ _ _ _ _ _ _ _ _ _ _ _ _ _ _ _ _ _ _ _ _ _ _ _ _ _ _ _ _ _ _ _ _ _ _ _ _ _ _ _ _ _ _ _ _ _ _ _ _ _ _ _ _ _ _ _ _ _ _ _ _ _ _ _ _ _ _ _ _ _ _ _ _ _ _ _ _ _ _ _ _ _ _ _ _ _ _ _ _ _ _ _ _ _ _ _ _ _ _ _ _ _ _ _ _ _ _ _ _ _ _ _ _ _ _ _ _ _ _ _ _ _ _ _ _ _ _ _ _ _ _ _ _ _ _ _ _ _ _ _ _ _ _ _ _ _ _ _ (fun val wx hBo => ?_)
       have k2 := Lib.hid (Blw HBJ.out hBo)
       clear hBo HCE HCS HCG HWT HFG HBJ
       go_wp2
       exact ⟨⟨j + 1, by omega, by go_num, k2⟩, by simp [intOf]; omega⟩
      ·have hjd := decide_eq_false (show ¬ (j : Int) < 2 by omega)
       have HM9 := Lib.hid (HM.out.below HBJ.out)
       have k8 := Lib.hid (Blw HB.out HBJ.out)
       go_wp2
       exact ⟨⟨i + 1, sv, Sf, Ms, ac, de, P, T, by omega, by go_num, HM9, HI, k8⟩, by simp [intOf]; omega⟩
   ·have hd2 := decide_eq_false (show ¬ (i : Int) < 80 by omega)
    have hi5 : ¬ (i : Int) < 80 := by omega
    go_wp2_with fail
    refine (lives_any _).mono ?_
    rintro e w16 ⟨rfl, hb⟩
    have k8 := Lib.hid (Blw HB.out hb)
    clear hb
    go_wp2
    go_ret
    exact ⟨rfl, k8.out⟩
  ·have hd1 := decide_eq_false (show ¬ (i : Int) < (N : Int) by omega)
   have hi3 : ¬ (i : Int) < (N : Int) := by omega
   go_wp2_with fail
   refine (lives_any _).mono ?_
   rintro e w16 ⟨rfl, hb⟩
   have k8 := Lib.hid (Blw HB.out hb)
   clear hb
   go_wp2
   go_ret
   exact ⟨rfl, k8.out⟩
end Go.Proofs.Ytgdibcgphjmofaa
