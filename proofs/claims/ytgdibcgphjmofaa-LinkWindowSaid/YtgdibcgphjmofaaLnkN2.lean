/-
 THE WALK of LinkWindow.
-/
import Derived.Test.YtgdibcgphjmofaaLnkC2
import Derived.Test.YtgdibcgphjmofaaLnkT2
namespace Go.Proofs.Ytgdibcgphjmofaa
set_option maxHeartbeats 4000000
open Go.RowKit
open Go.Maps
set_option linter.unusedVariables false
theorem byte80 {i : Nat} (h : i < 80) : ((UInt8.ofNat i).toNat : Int) = (i : Int) := by rw [UInt8.toNat_ofNat']; omega
/-- A packet of the reference's. -/
def SRpk (p q : Int) (l : List UInt8) : Sp := fun w v => ∃ A c, v = .agg #[.int .i64 p, .int .i64 q, .slice A l.length c] ∧ BV w (.slice A l.length c) l
theorem SRpk.mono (p q : Int) (l : List UInt8) : Mono (SRpk p q l) := fun _ _ _ ⟨A, c, h1, h2⟩ hb => ⟨A, c, h1, h2.below hb⟩
theorem op_rpk {o : Oper} {a : Act} {wx : World} {x y : Operand} {p : Int} {l : List UInt8} (ho : o.op = .build 43 #[(0, x), (2, y)]) (hx : a.eval x = .int .i64 p) (hy : SY l wx (a.eval y)) : Does Try.prog o (SRpk p 0 l) false a wx := by
 have hy0 := hy
 obtain ⟨A, c, e, -⟩ := hy
 have h : ∀ ρ : Operand → Value, ρ x = .int .i64 p → ρ y = .slice A l.length c → (execOp ρ o).run Try.prog wx = .ok (.value (.agg #[.int .i64 p, .int .i64 0, .slice A l.length c])) wx := by
  intro ρ e1 e2; simp [execOp, ho, e1, e2, go_sem]
 exact Does.val (h _ hx e) ⟨A, c, rfl, by rw [← e]; exact hy0⟩
theorem op_byte {o : Oper} {a : Act} {wx : World} {S j : Nat} {x : Operand} (ho : o.op = .buildSlice S 1 #[(0, x)]) (hx : a.eval x = .int .u8 (j : Int)) (hj : j < 80)
  (hr : (Instr.buildSlice S 1 #[(0, .int .u8 (j : Int))]).run Try.prog wx = .ok (.slice (some ⟨wx.heap.size, 0, none⟩) 1 1) (wx.alloc (.cells #[.int .u8 (j : Int)] 5))) : Does Try.prog o (SY (Pr.msg j)) false a wx := by
 have h : ∀ ρ : Operand → Value, ρ x = .int .u8 (j : Int) → (execOp ρ o).run Try.prog wx = .ok (.value (.slice (some ⟨wx.heap.size, 0, none⟩) 1 1)) (wx.alloc (.cells #[.int .u8 (j : Int)] 5)) := by
  intro ρ e1; simp [execOp, ho, e1, hr, Result.andThen]
 exact .inl ⟨_, _, h _ hx, (Below.refl _ _).alloc (Nat.le_refl _) _, bv_lit wx (UInt8.ofNat j) (0, 0) (by rw [byte80 hj]), fun h => by cases h⟩
theorem rpk_bv {w : World} {A : Option Addr} {n c : Nat} {l : List UInt8} (p q : Int) (h : BV w (.slice A n c) l) (hp : W.Is64 p) (hq : W.Is64 q) (hl : l.length ≤ 100000) : Calls Try.prog 18 #[.agg #[.int .i64 p, .int .i64 q, .slice A n c]] w (RB_ (K.pk p q l) w) := by
 obtain ⟨rfl, h2, h3, h4⟩ := h.parts
 exact rpk_any p q A c _ l w h4 (Nat.le_refl _) hp hq hl
theorem Pr.pk0 (key : Int) (j : Nat) : Pr.pk key 0 0 j = K.sealed key (K.pk ((j : Int) + 1) 0 (Pr.msg j)) := by
 unfold Pr.pk
 simp
theorem Pr.pk_len (key : Int) (p q : Int) (j : Nat) : (K.sealed key (K.pk p q (Pr.msg j))).length ≤ 1000000000000 ∧ 8 ≤ (K.sealed key (K.pk p q (Pr.msg j))).length := by
 have := K.pk_len p q (Pr.msg j) (by simp [Pr.msg])
 unfold K.sealed
 rw [List.length_append, K.seal8_len]
 omega
theorem same_yes {wx : World} {u v : Value} {Y : List UInt8} (h1 : BV wx u Y) (h2 : BV wx v Y) : Calls Try.prog 29 #[u, v] wx fun e w' => e = .returned (.bool true) ∧ Below wx.heap.size wx w' := by
 have h := same_bv h1 h2
 rw [decide_eq_true rfl] at h
 exact h.mono fun e w' ⟨h3, n, h4⟩ => ⟨h3, by subst h4; exact bdN (Below.refl _ _) n⟩
def SMk (n : Nat) : Sp := fun w v => ∃ g, v = .slice (some ⟨g, 0, none⟩) n n
theorem SMk.mono (n : Nat) : Mono (SMk n) := fun _ _ _ h _ => h
theorem op_mk {o : Oper} {a : Act} {wx : World} (ho : o.op = .makeSlice 33 (.const (.int .i64 65537)) (.const (.int .i64 65537))) : Does Try.prog o (SMk 65537) false a wx := by
 obtain ⟨i0, hi, hz0, hz1, hz2⟩ := info_parts info_u8
 obtain ⟨w', hr, -, hg⟩ := run_makeSlice_full (P := Try.prog) (w := wx) wx.heap.size 33 5 i0 _ 1 Try.underlying33 hi hz0 hz1 .i64 .i64 65537 (by omega) (by rw [hz2]; omega) (by unfold maxLen; omega) (Nat.le_refl _)
 have hr : (Instr.makeSlice 33 (.int .i64 65537) (.int .i64 65537)).run Try.prog wx = .ok (.slice (some ⟨wx.heap.size, 0, none⟩) 65537 65537) w' := hr
 have h : (execOp a.eval o).run Try.prog wx = .ok (.value (.slice (some ⟨wx.heap.size, 0, none⟩) 65537 65537)) w' := by
  simp [execOp, ho, Act.eval, hr, Result.andThen]
 exact .inl ⟨_, w', h, (Below.refl _ _).grown hg (Nat.le_refl _) (by simp), ⟨_, rfl⟩, fun h => by cases h⟩
set_option maxRecDepth 100000 in
theorem wn_reg19 {Q : Exit → Act → World → Prop} (wo : World) (key : Int) (gp pc cp j nu cu : Nat) (Au : Option Addr) (hk : 0 ≤ key ∧ key < 18446744073709551616) (hj : j < 80) (hj3 : (j : Int) < (pc : Int)) (hj4 : (0 : Int) ≤ (j : Int)) (HCP : Hid (∀ wx, Below wo.heap.size wo wx → wx.cell? ⟨gp, j, none⟩ = some (.slice Au nu cu))) (HBU : Hid (BV wo (.slice Au nu cu) (K.sealed key (K.pk ((j : Int) + 1) 0 (Pr.msg j))))) (x0_ x2_ x3_ x4_ x5_ x6_ x7_ x8_ x9_ x10_ x11_ x12_ x13_ x16_ x17_ x18_ x19_ x20_ x21_ x22_ x23_ x24_ x25_ x26_ x27_ x28_ x29_ x30_ x31_ x32_ x33_ x34_ x35_ x36_ x37_ x38_ x39_ x40_ x41_ x42_ x43_ x44_ x45_ x46_ x47_ x48_ x49_ x50_ x51_ x52_ x53_ x54_ x55_ x56_ x57_ x58_ x59_ x60_ x61_ x62_ x63_ x64_ x65_ x66_ x67_ x68_ x69_ x70_ x71_ x72_ x73_ x74_ x75_ x76_ x77_ x78_ x79_ x80_ x81_ x82_ x83_ x84_ x85_ x86_ x87_ x88_ x89_ x90_ x91_ x92_ x93_ x94_ x95_ x96_ x97_ x98_ x99_ x100_ x101_ x102_ x103_ x104_ x105_ x106_ x107_ x108_ x109_ x110_ x111_ x112_ x113_ x114_ x115_ x116_ x117_ x118_ x119_ x120_ x121_ x122_ x123_ x124_ x125_ x126_ x127_ x128_ x129_ x130_ x131_ x132_ x133_ x134_ x135_ x136_ x137_ x138_ x139_ x140_ x141_ x142_ x143_ x144_ x145_ x146_ x147_ x148_ x149_ x150_ x151_ x152_ x153_ x154_ x155_ x156_ x157_ x158_ x159_ x160_ x161_ x162_ x163_ x164_ x165_ x166_ x167_ x168_ x169_ x170_ x171_ x172_ x173_ x174_ x175_ x176_ x177_ x178_ x179_ x180_ x181_ x182_ x183_ x184_ x185_ x186_ x187_ x188_ x189_ x190_ x191_ x192_ x193_ x194_ x195_ x196_ x197_ x198_ x199_ x200_ x201_ x202_ x203_ x204_ x205_ x206_ x207_ x208_ x209_ x210_ x211_ x212_ x213_ x214_ x215_ x216_ x217_ x218_ x219_ x220_ x221_ x222_ x223_ x224_ x225_ x226_ x227_ x228_ x229_ x230_ x231_ x232_ x233_ x234_ x235_ x236_ x237_ x238_ x239_ x240_ x241_ x242_ x243_ x244_ x245_ x246_ x247_ x248_ x249_ x250_ x251_ x252_ x253_ x254_ x255_ x256_ x257_ x258_ x259_ x260_ x261_ x262_ x263_ x264_ x265_ x266_ x267_ x268_ x269_ x270_ x271_ x272_ x273_ x274_ x275_ x276_ x277_ x278_ x279_ x280_ x281_ x282_ x283_ x284_ x285_ x286_ x287_ x288_ x289_ x290_ : Value) (hQ : ∀ (val : Nat → Value) wx, Below wo.heap.size wo wx → Q .normal ⟨#[x0_, .int .u64 key, x2_, x3_, x4_, x5_, x6_, x7_, x8_, x9_, x10_, x11_, x12_, x13_, .slice (some ⟨gp, 0, none⟩) pc cp, .int .i64 (j : Int), x16_, x17_, x18_, x19_, x20_, x21_, x22_, x23_, x24_, x25_, x26_, x27_, x28_, x29_, x30_, x31_, x32_, x33_, x34_, x35_, x36_, x37_, x38_, x39_, x40_, x41_, x42_, x43_, x44_, x45_, x46_, x47_, x48_, x49_, x50_, x51_, x52_, x53_, x54_, x55_, x56_, x57_, x58_, x59_, x60_, x61_, x62_, x63_, x64_, x65_, x66_, x67_, x68_, x69_, x70_, x71_, x72_, x73_, x74_, x75_, x76_, x77_, x78_, x79_, x80_, x81_, x82_, x83_, x84_, x85_, x86_, val 0, val 1, val 2, val 3, val 4, val 5, val 6, val 7, val 8, val 9, val 10, val 11, val 12, val 13, .bool false, x102_, x103_, x104_, x105_, x106_, x107_, x108_, x109_, x110_, x111_, x112_, x113_, x114_, x115_, x116_, x117_, x118_, x119_, x120_, x121_, x122_, x123_, x124_, x125_, x126_, x127_, x128_, x129_, x130_, x131_, x132_, x133_, x134_, x135_, x136_, x137_, x138_, x139_, x140_, x141_, x142_, x143_, x144_, x145_, x146_, x147_, x148_, x149_, x150_, x151_, x152_, x153_, x154_, x155_, x156_, x157_, x158_, x159_, x160_, x161_, x162_, x163_, x164_, x165_, x166_, x167_, x168_, x169_, x170_, x171_, x172_, x173_, x174_, x175_, x176_, x177_, x178_, x179_, x180_, x181_, x182_, x183_, x184_, x185_, x186_, x187_, x188_, x189_, x190_, x191_, x192_, x193_, x194_, x195_, x196_, x197_, x198_, x199_, x200_, x201_, x202_, x203_, x204_, x205_, x206_, x207_, x208_, x209_, x210_, x211_, x212_, x213_, x214_, x215_, x216_, x217_, x218_, x219_, x220_, x221_, x222_, x223_, x224_, x225_, x226_, x227_, x228_, x229_, x230_, x231_, x232_, x233_, x234_, x235_, x236_, x237_, x238_, x239_, x240_, x241_, x242_, x243_, x244_, x245_, x246_, x247_, x248_, x249_, x250_, x251_, x252_, x253_, x254_, x255_, x256_, x257_, x258_, x259_, x260_, x261_, x262_, x263_, x264_, x265_, x266_, x267_, x268_, x269_, x270_, x271_, x272_, x273_, x274_, x275_, x276_, x277_, x278_, x279_, x280_, x281_, x282_, x283_, x284_, x285_, x286_, x287_, x288_, x289_, x290_], []⟩ wx) :
  Code.wp Try.prog ((regIn 19 ((Try.f8.body).getD .skip)).getD .skip) Q ⟨#[x0_, .int .u64 key, x2_, x3_, x4_, x5_, x6_, x7_, x8_, x9_, x10_, x11_, x12_, x13_, .slice (some ⟨gp, 0, none⟩) pc cp, .int .i64 (j : Int), x16_, x17_, x18_, x19_, x20_, x21_, x22_, x23_, x24_, x25_, x26_, x27_, x28_, x29_, x30_, x31_, x32_, x33_, x34_, x35_, x36_, x37_, x38_, x39_, x40_, x41_, x42_, x43_, x44_, x45_, x46_, x47_, x48_, x49_, x50_, x51_, x52_, x53_, x54_, x55_, x56_, x57_, x58_, x59_, x60_, x61_, x62_, x63_, x64_, x65_, x66_, x67_, x68_, x69_, x70_, x71_, x72_, x73_, x74_, x75_, x76_, x77_, x78_, x79_, x80_, x81_, x82_, x83_, x84_, x85_, x86_, x87_, x88_, x89_, x90_, x91_, x92_, x93_, x94_, x95_, x96_, x97_, x98_, x99_, x100_, x101_, x102_, x103_, x104_, x105_, x106_, x107_, x108_, x109_, x110_, x111_, x112_, x113_, x114_, x115_, x116_, x117_, x118_, x119_, x120_, x121_, x122_, x123_, x124_, x125_, x126_, x127_, x128_, x129_, x130_, x131_, x132_, x133_, x134_, x135_, x136_, x137_, x138_, x139_, x140_, x141_, x142_, x143_, x144_, x145_, x146_, x147_, x148_, x149_, x150_, x151_, x152_, x153_, x154_, x155_, x156_, x157_, x158_, x159_, x160_, x161_, x162_, x163_, x164_, x165_, x166_, x167_, x168_, x169_, x170_, x171_, x172_, x173_, x174_, x175_, x176_, x177_, x178_, x179_, x180_, x181_, x182_, x183_, x184_, x185_, x186_, x187_, x188_, x189_, x190_, x191_, x192_, x193_, x194_, x195_, x196_, x197_, x198_, x199_, x200_, x201_, x202_, x203_, x204_, x205_, x206_, x207_, x208_, x209_, x210_, x211_, x212_, x213_, x214_, x215_, x216_, x217_, x218_, x219_, x220_, x221_, x222_, x223_, x224_, x225_, x226_, x227_, x228_, x229_, x230_, x231_, x232_, x233_, x234_, x235_, x236_, x237_, x238_, x239_, x240_, x241_, x242_, x243_, x244_, x245_, x246_, x247_, x248_, x249_, x250_, x251_, x252_, x253_, x254_, x255_, x256_, x257_, x258_, x259_, x260_, x261_, x262_, x263_, x264_, x265_, x266_, x267_, x268_, x269_, x270_, x271_, x272_, x273_, x274_, x275_, x276_, x277_, x278_, x279_, x280_, x281_, x282_, x283_, x284_, x285_, x286_, x287_, x288_, x289_, x290_], []⟩ wo := by
 have HQ_ := Lib.hid hQ; clear hQ
 conv => arg 2; whnf
 generalize hW_19 : wo.drew = W_19
 refine gen_act ?_
 intro F_ hF_
 have ev1 : F_.eval (.tmp 1) = .int .u64 key := by rw [← hF_]; rfl
 have ev14 : F_.eval (.tmp 14) = .slice (some ⟨gp, 0, none⟩) pc cp := by rw [← hF_]; rfl
 have ev15 : F_.eval (.tmp 15) = .int .i64 (j : Int) := by rw [← hF_]; rfl
 have hsz_ : ∀ d ∈ ([(87, []), (88, []), (89, [0, 1]), (90, [2]), (91, []), (92, []), (93, [5]), (94, []), (95, [7]), (96, [8]), (97, [6, 9]), (98, [10]), (99, [4, 11]), (100, [3, 12]), (101, [13])] : List (Nat × List Nat)).map (·.1), d < F_.tmps.size := by rw [← hF_]; simp
 have HF_ := Lib.hid hF_; clear hF_
 refine wp_flow_tab true hW_19 15 [(87, []), (88, []), (89, [0, 1]), (90, [2]), (91, []), (92, []), (93, [5]), (94, []), (95, [7]), (96, [8]), (97, [6, 9]), (98, [10]), (99, [4, 11]), (100, [3, 12]), (101, [13])] [SC (.slice (some ⟨gp, 0, none⟩) pc cp), SC (.int .i64 (j : Int)), SC (.pointer (some ⟨gp, j, none⟩)), SC (.slice Au nu cu), SC (.int .u64 key), SC (.int .i64 (j : Int)), SC (.int .i64 ((j : Int) + 1)), SC (.int .i64 (j : Int)), SC (.int .u8 (j : Int)), SY (Pr.msg j), SRpk ((j : Int) + 1) 0 (Pr.msg j), SY (K.pk ((j : Int) + 1) 0 (Pr.msg j)), SY (K.sealed key (K.pk ((j : Int) + 1) 0 (Pr.msg j))), SC (.bool true), SC (.bool false)] [false, false, false, false, false, false, false, false, false, false, false, false, false, false, false] (by kernel_rfl) (by kernel_rfl) (by kernel_rfl) (by kernel_rfl) (by kernel_rfl) hsz_ ⟨SC.mono _, SC.mono _, SC.mono _, SC.mono _, SC.mono _, SC.mono _, SC.mono _, SC.mono _, SC.mono _, SY.mono _, SRpk.mono _ _ _, SY.mono _, SY.mono _, SC.mono _, SC.mono _, trivial⟩ ?_ ?_
 ·intro kq hkq a wx hB hp hs
  have hBo : Below wo.heap.size wo wx := dB hW_19 hB
  have hcase : kq = 0 ∨ kq = 1 ∨ kq = 2 ∨ kq = 3 ∨ kq = 4 ∨ kq = 5 ∨ kq = 6 ∨ kq = 7 ∨ kq = 8 ∨ kq = 9 ∨ kq = 10 ∨ kq = 11 ∨ kq = 12 ∨ kq = 13 ∨ kq = 14 := by omega
  rcases hcase with rfl | rfl | rfl | rfl | rfl | rfl | rfl | rfl | rfl | rfl | rfl | rfl | rfl | rfl | rfl
  ·clear hp
   exact ⟨_, rfl, op_mv (s := SC _) rfl ((hs 14 rfl).trans ev14)⟩
  ·clear hp
   exact ⟨_, rfl, op_mv (s := SC _) rfl ((hs 15 rfl).trans ev15)⟩
  ·obtain ⟨k0, k1, -⟩ := hp
   have e0 : a.eval (.tmp 87) = .slice (some ⟨gp, 0, none⟩) pc cp := k0
   simp [Act.eval] at e0
   have e1 : a.eval (.tmp 88) = .int .i64 (j : Int) := k1
   simp [Act.eval] at e1
   exact ⟨_, rfl, Does.val (by simp [execOp, Act.eval, e0, e1, go_sem, hj3, hj4]) rfl⟩
  ·obtain ⟨k0, -⟩ := hp
   have e0 : a.eval (.tmp 89) = .pointer (some ⟨gp, j, none⟩) := k0
   simp [Act.eval] at e0
   exact ⟨_, rfl, Does.val (by simp [execOp, Act.eval, e0, go_sem, HCP.out wx hBo]) rfl⟩
  ·clear hp
   exact ⟨_, rfl, op_mv (s := SC _) rfl ((hs 1 rfl).trans ev1)⟩
  ·clear hp
   exact ⟨_, rfl, op_mv (s := SC _) rfl ((hs 15 rfl).trans ev15)⟩
  ·obtain ⟨k0, -⟩ := hp
   have e0 : a.eval (.tmp 92) = .int .i64 (j : Int) := k0
   simp [Act.eval] at e0
   exact ⟨_, rfl, Does.val (by simp [execOp, Act.eval, e0, go_sem, (show IntKind.i64.wrap ((j : Int) + 1) = (j : Int) + 1 by rw [IntKind.wrap_i64]; omega)]) rfl⟩
  ·clear hp
   exact ⟨_, rfl, op_mv (s := SC _) rfl ((hs 15 rfl).trans ev15)⟩
  ·obtain ⟨k0, -⟩ := hp
   have e0 : a.eval (.tmp 94) = .int .i64 (j : Int) := k0
   simp [Act.eval] at e0
   exact ⟨_, rfl, Does.val (by simp [execOp, Act.eval, e0, go_sem, (show IntKind.u8.wrap (j : Int) = (j : Int) by rw [IntKind.wrap_u8]; omega)]) rfl⟩
  ·obtain ⟨k0, -⟩ := hp
   exact ⟨_, rfl, op_byte rfl k0 hj (by simp [go_sem])⟩
  ·obtain ⟨k0, k1, -⟩ := hp
   exact ⟨_, rfl, op_rpk rfl k0 k1⟩
  ·obtain ⟨k0, -⟩ := hp
   obtain ⟨A9, c9, e9, h9⟩ := k0
   exact ⟨_, rfl, Does.ry (f := 18) (call1 rfl (fun _ => by simp [go_sem]) e9) ((rpk_bv _ _ h9 (i64 (by omega) (by omega)) (i64 (by omega) (by omega)) (by simp [Pr.msg])).mono fun _ _ h => h.bv)⟩
  ·obtain ⟨k0, k1, -⟩ := hp
   obtain ⟨A9, c9, e9, k2, hm9, hr9, -⟩ := k1
   exact ⟨_, rfl, Does.ry (f := 17) (call2 rfl (fun _ => by simp [go_sem]) k0 e9) ((rseal_rd key A9 c9 _ _ wx hk hr9 (Nat.le_refl _) k2 hm9 (by have := K.pk_len ((j : Int) + 1) 0 (Pr.msg j) (by simp [Pr.msg]); omega)).mono fun _ _ h => h.bv)⟩
  ·obtain ⟨k0, k1, -⟩ := hp
   exact ⟨_, rfl, Does.rc (f := 29) (call2 rfl (fun _ => by simp [go_sem]) k0 rfl) (same_yes (HBU.out.below hBo) k1)⟩
  ·obtain ⟨k0, -⟩ := hp
   have e0 : a.eval (.tmp 100) = .bool true := k0
   simp [Act.eval] at e0
   exact ⟨_, rfl, Does.val (by simp [execOp, Act.eval, e0, go_sem]) rfl⟩
 ·intro val wx hB hsp hdis
  have hBo : Below wo.heap.size wo wx := dB hW_19 hB
  have e14 : val 14 = .bool false := hsp 14 (by omega)
  rw [← HF_.out]
  change wpList _ _ _ [] _ _
  simp only [puts_consT, puts_nilm, vals, List.map_cons, List.map_nil, Nat.zero_add, Nat.reduceAdd, e14, List.setIfInBounds_toArray, List.set_cons_succ, List.set_cons_zero]
  clear hsp hdis HF_ hsz_ hB hW_19 e14 ev1 ev14 ev15
  go_wp2
  exact HQ_.out val wx hBo
set_option maxRecDepth 100000 in
theorem wn_reg33 {Q : Exit → Act → World → Prop} (wo : World) (key : Int) (gp pc cp j nu cu : Nat) (Au : Option Addr) (hk : 0 ≤ key ∧ key < 18446744073709551616) (hj : j < 80) (hj3 : (j : Int) < (pc : Int)) (hj4 : (0 : Int) ≤ (j : Int)) (HCP : Hid (∀ wx, Below wo.heap.size wo wx → wx.cell? ⟨gp, j, none⟩ = some (.slice Au nu cu))) (HBU : Hid (BV wo (.slice Au nu cu) (K.sealed key (K.pk ((j : Int) + 1) 0 (Pr.msg j))))) (x0_ x2_ x3_ x4_ x5_ x6_ x7_ x8_ x9_ x10_ x11_ x12_ x13_ x14_ x15_ x16_ x17_ x18_ x19_ x20_ x21_ x22_ x25_ x26_ x27_ x28_ x29_ x30_ x31_ x32_ x33_ x34_ x35_ x36_ x37_ x38_ x39_ x40_ x41_ x42_ x43_ x44_ x45_ x46_ x47_ x48_ x49_ x50_ x51_ x52_ x53_ x54_ x55_ x56_ x57_ x58_ x59_ x60_ x61_ x62_ x63_ x64_ x65_ x66_ x67_ x68_ x69_ x70_ x71_ x72_ x73_ x74_ x75_ x76_ x77_ x78_ x79_ x80_ x81_ x82_ x83_ x84_ x85_ x86_ x87_ x88_ x89_ x90_ x91_ x92_ x93_ x94_ x95_ x96_ x97_ x98_ x99_ x100_ x101_ x102_ x103_ x104_ x105_ x106_ x107_ x108_ x109_ x110_ x111_ x112_ x113_ x114_ x115_ x116_ x117_ x118_ x119_ x120_ x121_ x122_ x123_ x124_ x125_ x126_ x127_ x128_ x129_ x130_ x131_ x132_ x133_ x134_ x135_ x136_ x137_ x138_ x139_ x140_ x141_ x142_ x143_ x144_ x145_ x146_ x147_ x148_ x149_ x150_ x151_ x152_ x153_ x154_ x155_ x156_ x157_ x158_ x159_ x160_ x161_ x162_ x163_ x164_ x165_ x166_ x167_ x168_ x169_ x170_ x171_ x172_ x173_ x174_ x175_ x176_ x177_ x178_ x179_ x180_ x181_ x182_ x183_ x184_ x185_ x186_ x187_ x188_ x189_ x190_ x191_ x192_ x193_ x194_ x195_ x196_ x197_ x198_ x199_ x200_ x201_ x202_ x203_ x204_ x205_ x206_ x207_ x208_ x209_ x210_ x211_ x212_ x213_ x214_ x215_ x216_ x217_ x218_ x219_ x220_ x221_ x222_ x223_ x224_ x225_ x226_ x227_ x228_ x229_ x230_ x231_ x232_ x233_ x234_ x235_ x236_ x237_ x238_ x239_ x240_ x241_ x242_ x243_ x244_ x245_ x246_ x247_ x248_ x249_ x250_ x251_ x252_ x253_ x254_ x255_ x256_ x257_ x258_ x259_ x260_ x261_ x262_ x263_ x264_ x265_ x266_ x267_ x268_ x269_ x270_ x271_ x272_ x273_ x274_ x275_ x276_ x277_ x278_ x279_ x280_ x281_ x282_ x283_ x284_ x285_ x286_ x287_ x288_ x289_ x290_ : Value) (hQ : ∀ (val : Nat → Value) wx, Below wo.heap.size wo wx → Q .normal ⟨#[x0_, .int .u64 key, x2_, x3_, x4_, x5_, x6_, x7_, x8_, x9_, x10_, x11_, x12_, x13_, x14_, x15_, x16_, x17_, x18_, x19_, x20_, x21_, x22_, .slice (some ⟨gp, 0, none⟩) pc cp, .int .i64 (j : Int), x25_, x26_, x27_, x28_, x29_, x30_, x31_, x32_, x33_, x34_, x35_, x36_, x37_, x38_, x39_, x40_, x41_, x42_, x43_, x44_, x45_, x46_, x47_, x48_, x49_, x50_, x51_, x52_, x53_, x54_, x55_, x56_, x57_, x58_, x59_, x60_, x61_, x62_, x63_, x64_, x65_, x66_, x67_, x68_, x69_, x70_, x71_, x72_, x73_, x74_, x75_, x76_, x77_, x78_, x79_, x80_, x81_, x82_, x83_, x84_, x85_, x86_, x87_, x88_, x89_, x90_, x91_, x92_, x93_, x94_, x95_, x96_, x97_, x98_, x99_, x100_, x101_, x102_, x103_, x104_, x105_, x106_, x107_, x108_, x109_, x110_, x111_, x112_, x113_, x114_, x115_, x116_, x117_, x118_, x119_, x120_, x121_, x122_, x123_, x124_, x125_, x126_, x127_, x128_, x129_, x130_, x131_, x132_, x133_, x134_, x135_, x136_, x137_, x138_, x139_, x140_, x141_, x142_, x143_, x144_, x145_, x146_, x147_, x148_, x149_, x150_, x151_, x152_, x153_, val 0, val 1, val 2, val 3, val 4, val 5, val 6, val 7, val 8, val 9, val 10, val 11, val 12, val 13, .bool false, x169_, x170_, x171_, x172_, x173_, x174_, x175_, x176_, x177_, x178_, x179_, x180_, x181_, x182_, x183_, x184_, x185_, x186_, x187_, x188_, x189_, x190_, x191_, x192_, x193_, x194_, x195_, x196_, x197_, x198_, x199_, x200_, x201_, x202_, x203_, x204_, x205_, x206_, x207_, x208_, x209_, x210_, x211_, x212_, x213_, x214_, x215_, x216_, x217_, x218_, x219_, x220_, x221_, x222_, x223_, x224_, x225_, x226_, x227_, x228_, x229_, x230_, x231_, x232_, x233_, x234_, x235_, x236_, x237_, x238_, x239_, x240_, x241_, x242_, x243_, x244_, x245_, x246_, x247_, x248_, x249_, x250_, x251_, x252_, x253_, x254_, x255_, x256_, x257_, x258_, x259_, x260_, x261_, x262_, x263_, x264_, x265_, x266_, x267_, x268_, x269_, x270_, x271_, x272_, x273_, x274_, x275_, x276_, x277_, x278_, x279_, x280_, x281_, x282_, x283_, x284_, x285_, x286_, x287_, x288_, x289_, x290_], []⟩ wx) :
  Code.wp Try.prog ((regIn 33 ((Try.f8.body).getD .skip)).getD .skip) Q ⟨#[x0_, .int .u64 key, x2_, x3_, x4_, x5_, x6_, x7_, x8_, x9_, x10_, x11_, x12_, x13_, x14_, x15_, x16_, x17_, x18_, x19_, x20_, x21_, x22_, .slice (some ⟨gp, 0, none⟩) pc cp, .int .i64 (j : Int), x25_, x26_, x27_, x28_, x29_, x30_, x31_, x32_, x33_, x34_, x35_, x36_, x37_, x38_, x39_, x40_, x41_, x42_, x43_, x44_, x45_, x46_, x47_, x48_, x49_, x50_, x51_, x52_, x53_, x54_, x55_, x56_, x57_, x58_, x59_, x60_, x61_, x62_, x63_, x64_, x65_, x66_, x67_, x68_, x69_, x70_, x71_, x72_, x73_, x74_, x75_, x76_, x77_, x78_, x79_, x80_, x81_, x82_, x83_, x84_, x85_, x86_, x87_, x88_, x89_, x90_, x91_, x92_, x93_, x94_, x95_, x96_, x97_, x98_, x99_, x100_, x101_, x102_, x103_, x104_, x105_, x106_, x107_, x108_, x109_, x110_, x111_, x112_, x113_, x114_, x115_, x116_, x117_, x118_, x119_, x120_, x121_, x122_, x123_, x124_, x125_, x126_, x127_, x128_, x129_, x130_, x131_, x132_, x133_, x134_, x135_, x136_, x137_, x138_, x139_, x140_, x141_, x142_, x143_, x144_, x145_, x146_, x147_, x148_, x149_, x150_, x151_, x152_, x153_, x154_, x155_, x156_, x157_, x158_, x159_, x160_, x161_, x162_, x163_, x164_, x165_, x166_, x167_, x168_, x169_, x170_, x171_, x172_, x173_, x174_, x175_, x176_, x177_, x178_, x179_, x180_, x181_, x182_, x183_, x184_, x185_, x186_, x187_, x188_, x189_, x190_, x191_, x192_, x193_, x194_, x195_, x196_, x197_, x198_, x199_, x200_, x201_, x202_, x203_, x204_, x205_, x206_, x207_, x208_, x209_, x210_, x211_, x212_, x213_, x214_, x215_, x216_, x217_, x218_, x219_, x220_, x221_, x222_, x223_, x224_, x225_, x226_, x227_, x228_, x229_, x230_, x231_, x232_, x233_, x234_, x235_, x236_, x237_, x238_, x239_, x240_, x241_, x242_, x243_, x244_, x245_, x246_, x247_, x248_, x249_, x250_, x251_, x252_, x253_, x254_, x255_, x256_, x257_, x258_, x259_, x260_, x261_, x262_, x263_, x264_, x265_, x266_, x267_, x268_, x269_, x270_, x271_, x272_, x273_, x274_, x275_, x276_, x277_, x278_, x279_, x280_, x281_, x282_, x283_, x284_, x285_, x286_, x287_, x288_, x289_, x290_], []⟩ wo := by
 have HQ_ := Lib.hid hQ; clear hQ
 conv => arg 2; whnf
 generalize hW_33 : wo.drew = W_33
 refine gen_act ?_
 intro F_ hF_
 have ev1 : F_.eval (.tmp 1) = .int .u64 key := by rw [← hF_]; rfl
 have ev23 : F_.eval (.tmp 23) = .slice (some ⟨gp, 0, none⟩) pc cp := by rw [← hF_]; rfl
 have ev24 : F_.eval (.tmp 24) = .int .i64 (j : Int) := by rw [← hF_]; rfl
 have hsz_ : ∀ d ∈ ([(154, []), (155, []), (156, [0, 1]), (157, [2]), (158, []), (159, []), (160, [5]), (161, []), (162, [7]), (163, [8]), (164, [6, 9]), (165, [10]), (166, [4, 11]), (167, [3, 12]), (168, [13])] : List (Nat × List Nat)).map (·.1), d < F_.tmps.size := by rw [← hF_]; simp
 have HF_ := Lib.hid hF_; clear hF_
 refine wp_flow_tab true hW_33 15 [(154, []), (155, []), (156, [0, 1]), (157, [2]), (158, []), (159, []), (160, [5]), (161, []), (162, [7]), (163, [8]), (164, [6, 9]), (165, [10]), (166, [4, 11]), (167, [3, 12]), (168, [13])] [SC (.slice (some ⟨gp, 0, none⟩) pc cp), SC (.int .i64 (j : Int)), SC (.pointer (some ⟨gp, j, none⟩)), SC (.slice Au nu cu), SC (.int .u64 key), SC (.int .i64 (j : Int)), SC (.int .i64 ((j : Int) + 1)), SC (.int .i64 (j : Int)), SC (.int .u8 (j : Int)), SY (Pr.msg j), SRpk ((j : Int) + 1) 0 (Pr.msg j), SY (K.pk ((j : Int) + 1) 0 (Pr.msg j)), SY (K.sealed key (K.pk ((j : Int) + 1) 0 (Pr.msg j))), SC (.bool true), SC (.bool false)] [false, false, false, false, false, false, false, false, false, false, false, false, false, false, false] (by kernel_rfl) (by kernel_rfl) (by kernel_rfl) (by kernel_rfl) (by kernel_rfl) hsz_ ⟨SC.mono _, SC.mono _, SC.mono _, SC.mono _, SC.mono _, SC.mono _, SC.mono _, SC.mono _, SC.mono _, SY.mono _, SRpk.mono _ _ _, SY.mono _, SY.mono _, SC.mono _, SC.mono _, trivial⟩ ?_ ?_
 ·intro kq hkq a wx hB hp hs
  have hBo : Below wo.heap.size wo wx := dB hW_33 hB
  have hcase : kq = 0 ∨ kq = 1 ∨ kq = 2 ∨ kq = 3 ∨ kq = 4 ∨ kq = 5 ∨ kq = 6 ∨ kq = 7 ∨ kq = 8 ∨ kq = 9 ∨ kq = 10 ∨ kq = 11 ∨ kq = 12 ∨ kq = 13 ∨ kq = 14 := by omega
  rcases hcase with rfl | rfl | rfl | rfl | rfl | rfl | rfl | rfl | rfl | rfl | rfl | rfl | rfl | rfl | rfl
  ·clear hp
   exact ⟨_, rfl, op_mv (s := SC _) rfl ((hs 23 rfl).trans ev23)⟩
  ·clear hp
   exact ⟨_, rfl, op_mv (s := SC _) rfl ((hs 24 rfl).trans ev24)⟩
  ·obtain ⟨k0, k1, -⟩ := hp
   have e0 : a.eval (.tmp 154) = .slice (some ⟨gp, 0, none⟩) pc cp := k0
   simp [Act.eval] at e0
   have e1 : a.eval (.tmp 155) = .int .i64 (j : Int) := k1
   simp [Act.eval] at e1
   exact ⟨_, rfl, Does.val (by simp [execOp, Act.eval, e0, e1, go_sem, hj3, hj4]) rfl⟩
  ·obtain ⟨k0, -⟩ := hp
   have e0 : a.eval (.tmp 156) = .pointer (some ⟨gp, j, none⟩) := k0
   simp [Act.eval] at e0
   exact ⟨_, rfl, Does.val (by simp [execOp, Act.eval, e0, go_sem, HCP.out wx hBo]) rfl⟩
  ·clear hp
   exact ⟨_, rfl, op_mv (s := SC _) rfl ((hs 1 rfl).trans ev1)⟩
  ·clear hp
   exact ⟨_, rfl, op_mv (s := SC _) rfl ((hs 24 rfl).trans ev24)⟩
  ·obtain ⟨k0, -⟩ := hp
   have e0 : a.eval (.tmp 159) = .int .i64 (j : Int) := k0
   simp [Act.eval] at e0
   exact ⟨_, rfl, Does.val (by simp [execOp, Act.eval, e0, go_sem, (show IntKind.i64.wrap ((j : Int) + 1) = (j : Int) + 1 by rw [IntKind.wrap_i64]; omega)]) rfl⟩
  ·clear hp
   exact ⟨_, rfl, op_mv (s := SC _) rfl ((hs 24 rfl).trans ev24)⟩
  ·obtain ⟨k0, -⟩ := hp
   have e0 : a.eval (.tmp 161) = .int .i64 (j : Int) := k0
   simp [Act.eval] at e0
   exact ⟨_, rfl, Does.val (by simp [execOp, Act.eval, e0, go_sem, (show IntKind.u8.wrap (j : Int) = (j : Int) by rw [IntKind.wrap_u8]; omega)]) rfl⟩
  ·obtain ⟨k0, -⟩ := hp
   exact ⟨_, rfl, op_byte rfl k0 hj (by simp [go_sem])⟩
  ·obtain ⟨k0, k1, -⟩ := hp
   exact ⟨_, rfl, op_rpk rfl k0 k1⟩
  ·obtain ⟨k0, -⟩ := hp
   obtain ⟨A9, c9, e9, h9⟩ := k0
   exact ⟨_, rfl, Does.ry (f := 18) (call1 rfl (fun _ => by simp [go_sem]) e9) ((rpk_bv _ _ h9 (i64 (by omega) (by omega)) (i64 (by omega) (by omega)) (by simp [Pr.msg])).mono fun _ _ h => h.bv)⟩
  ·obtain ⟨k0, k1, -⟩ := hp
   obtain ⟨A9, c9, e9, k2, hm9, hr9, -⟩ := k1
   exact ⟨_, rfl, Does.ry (f := 17) (call2 rfl (fun _ => by simp [go_sem]) k0 e9) ((rseal_rd key A9 c9 _ _ wx hk hr9 (Nat.le_refl _) k2 hm9 (by have := K.pk_len ((j : Int) + 1) 0 (Pr.msg j) (by simp [Pr.msg]); omega)).mono fun _ _ h => h.bv)⟩
  ·obtain ⟨k0, k1, -⟩ := hp
   exact ⟨_, rfl, Does.rc (f := 29) (call2 rfl (fun _ => by simp [go_sem]) k0 rfl) (same_yes (HBU.out.below hBo) k1)⟩
  ·obtain ⟨k0, -⟩ := hp
   have e0 : a.eval (.tmp 167) = .bool true := k0
   simp [Act.eval] at e0
   exact ⟨_, rfl, Does.val (by simp [execOp, Act.eval, e0, go_sem]) rfl⟩
 ·intro val wx hB hsp hdis
  have hBo : Below wo.heap.size wo wx := dB hW_33 hB
  have e14 : val 14 = .bool false := hsp 14 (by omega)
  rw [← HF_.out]
  change wpList _ _ _ [] _ _
  simp only [puts_consT, puts_nilm, vals, List.map_cons, List.map_nil, Nat.zero_add, Nat.reduceAdd, e14, List.setIfInBounds_toArray, List.set_cons_succ, List.set_cons_zero]
  clear hsp hdis HF_ hsz_ hB hW_33 e14 ev1 ev23 ev24
  go_wp2
  exact HQ_.out val wx hBo
set_option maxRecDepth 100000 in
theorem wn_reg47 {Q : Exit → Act → World → Prop} (wq : World) (A9 A12 A13 A14 : Option Addr) (c9 c12 c13 c14 b b' N k qc c : Nat) (win : Int) (hNb : N < 40) (hkN : k < N + 1) (hcw : (c : Int) = if win < (N : Int) then win else (N : Int)) (hqw : (qc : Int) = if win < (N : Int) - (k : Int) then win else (N : Int) - (k : Int)) (HWA : Hid (∀ wx, Below wq.heap.size wq wx → Calls Try.prog 21 #[.pointer (some ⟨b, 0, none⟩)] wx fun e w' => e = .returned (.int .i64 ((N : Int) - (k : Int))) ∧ wx = w')) (HWC : Hid (∀ wx, Below wq.heap.size wq wx → Calls Try.prog 21 #[.pointer (some ⟨b', 0, none⟩)] wx fun e w' => e = .returned (.int .i64 (N : Int)) ∧ wx = w')) (HSN : Hid (∀ wx g, Below wq.heap.size wq wx → Calls Try.prog 11 #[.pointer (some ⟨b, 0, none⟩), .slice (some ⟨g, 0, none⟩) 65537 65537] wx fun e w' => e = .returned (.int .i64 4) ∧ wx = w')) (x1_ x2_ x3_ x4_ x5_ x6_ x7_ x8_ x10_ x12_ x13_ x14_ x15_ x24_ x25_ x26_ x27_ x28_ x29_ x30_ x31_ x32_ x33_ x34_ x35_ x36_ x37_ x38_ x39_ x40_ x41_ x42_ x43_ x44_ x45_ x46_ x47_ x48_ x49_ x50_ x51_ x52_ x53_ x54_ x55_ x56_ x57_ x58_ x59_ x60_ x61_ x62_ x63_ x64_ x65_ x66_ x67_ x68_ x69_ x70_ x71_ x72_ x73_ x74_ x75_ x76_ x77_ x78_ x79_ x80_ x81_ x82_ x83_ x84_ x85_ x86_ x87_ x88_ x89_ x90_ x91_ x92_ x93_ x94_ x95_ x96_ x97_ x98_ x99_ x100_ x101_ x102_ x103_ x104_ x105_ x106_ x107_ x108_ x109_ x110_ x111_ x112_ x113_ x114_ x115_ x116_ x117_ x118_ x119_ x120_ x121_ x122_ x123_ x124_ x125_ x126_ x127_ x128_ x129_ x130_ x131_ x132_ x133_ x134_ x135_ x136_ x137_ x138_ x139_ x140_ x141_ x142_ x143_ x144_ x145_ x146_ x147_ x148_ x149_ x150_ x151_ x152_ x153_ x154_ x155_ x156_ x157_ x158_ x159_ x160_ x161_ x162_ x163_ x164_ x165_ x166_ x167_ x168_ x169_ x170_ x171_ x172_ x173_ x174_ x175_ x176_ x177_ x178_ x179_ x180_ x181_ x182_ x183_ x184_ x185_ x186_ x187_ x188_ x189_ x190_ x191_ x192_ x193_ x194_ x195_ x196_ x197_ x198_ x199_ x200_ x201_ x202_ x203_ x204_ x205_ x206_ x207_ x208_ x209_ x210_ x211_ x212_ x213_ x214_ x215_ x216_ x217_ x218_ x219_ x220_ x221_ x222_ x223_ x224_ x225_ x226_ x227_ x228_ x229_ x230_ x231_ x232_ x233_ x234_ x235_ x236_ x237_ x238_ x239_ x240_ x241_ x242_ x243_ x244_ x245_ x246_ x247_ x248_ x249_ x250_ x251_ x252_ x253_ x254_ x255_ x256_ x257_ x258_ x259_ x260_ x261_ x262_ x263_ x264_ x265_ x266_ x267_ x268_ x269_ x270_ x271_ x272_ x273_ x274_ x275_ x276_ x277_ x278_ x279_ x280_ x281_ x282_ x283_ x284_ x285_ x286_ x287_ x288_ x289_ x290_ : Value) (hQ : ∀ (val : Nat → Value) wx, Below wq.heap.size wq wx → Q .normal ⟨#[.int .i64 win, x1_, x2_, x3_, x4_, x5_, x6_, x7_, .bool true, .pointer (some ⟨b, 0, none⟩), x10_, .int .i64 (N : Int), x12_, x13_, x14_, x15_, .pointer (some ⟨b', 0, none⟩), .int .i64 (k : Int), .slice A9 0 c9, .int .i64 0, .slice A12 0 c12, .int .i64 0, .slice A13 qc c13, .slice A14 c c14, x24_, x25_, x26_, x27_, x28_, x29_, x30_, x31_, x32_, x33_, x34_, x35_, x36_, x37_, x38_, x39_, x40_, x41_, x42_, x43_, x44_, x45_, x46_, x47_, x48_, x49_, x50_, x51_, x52_, x53_, x54_, x55_, x56_, x57_, x58_, x59_, x60_, x61_, x62_, x63_, x64_, x65_, x66_, x67_, x68_, x69_, x70_, x71_, x72_, x73_, x74_, x75_, x76_, x77_, x78_, x79_, x80_, x81_, x82_, x83_, x84_, x85_, x86_, x87_, x88_, x89_, x90_, x91_, x92_, x93_, x94_, x95_, x96_, x97_, x98_, x99_, x100_, x101_, x102_, x103_, x104_, x105_, x106_, x107_, x108_, x109_, x110_, x111_, x112_, x113_, x114_, x115_, x116_, x117_, x118_, x119_, x120_, x121_, x122_, x123_, x124_, x125_, x126_, x127_, x128_, x129_, x130_, x131_, x132_, x133_, x134_, x135_, x136_, x137_, x138_, x139_, x140_, x141_, x142_, x143_, x144_, x145_, x146_, x147_, x148_, x149_, x150_, x151_, x152_, x153_, x154_, x155_, x156_, x157_, x158_, x159_, x160_, x161_, x162_, x163_, x164_, x165_, x166_, x167_, x168_, x169_, x170_, x171_, x172_, x173_, x174_, x175_, x176_, x177_, x178_, x179_, x180_, x181_, x182_, x183_, x184_, x185_, x186_, x187_, x188_, x189_, x190_, x191_, x192_, x193_, x194_, x195_, x196_, x197_, x198_, x199_, x200_, x201_, x202_, x203_, x204_, x205_, x206_, x207_, x208_, x209_, x210_, x211_, x212_, x213_, x214_, x215_, x216_, x217_, x218_, x219_, x220_, x221_, x222_, x223_, x224_, x225_, x226_, x227_, x228_, x229_, x230_, x231_, x232_, x233_, x234_, x235_, val 0, val 1, val 2, val 3, val 4, val 5, val 6, val 7, val 8, val 9, val 10, val 11, val 12, val 13, val 14, val 15, val 16, val 17, val 18, val 19, val 20, val 21, val 22, val 23, val 24, val 25, val 26, val 27, val 28, val 29, val 30, val 31, val 32, val 33, val 34, val 35, val 36, val 37, val 38, val 39, val 40, val 41, val 42, val 43, val 44, val 45, val 46, val 47, val 48, val 49, val 50, val 51, val 52, val 53, val 54], []⟩ wx) :
  Code.wp Try.prog ((regIn 47 ((Try.f8.body).getD .skip)).getD .skip) Q ⟨#[.int .i64 win, x1_, x2_, x3_, x4_, x5_, x6_, x7_, x8_, .pointer (some ⟨b, 0, none⟩), x10_, .int .i64 (N : Int), x12_, x13_, x14_, x15_, .pointer (some ⟨b', 0, none⟩), .int .i64 (k : Int), .slice A9 0 c9, .int .i64 0, .slice A12 0 c12, .int .i64 0, .slice A13 qc c13, .slice A14 c c14, x24_, x25_, x26_, x27_, x28_, x29_, x30_, x31_, x32_, x33_, x34_, x35_, x36_, x37_, x38_, x39_, x40_, x41_, x42_, x43_, x44_, x45_, x46_, x47_, x48_, x49_, x50_, x51_, x52_, x53_, x54_, x55_, x56_, x57_, x58_, x59_, x60_, x61_, x62_, x63_, x64_, x65_, x66_, x67_, x68_, x69_, x70_, x71_, x72_, x73_, x74_, x75_, x76_, x77_, x78_, x79_, x80_, x81_, x82_, x83_, x84_, x85_, x86_, x87_, x88_, x89_, x90_, x91_, x92_, x93_, x94_, x95_, x96_, x97_, x98_, x99_, x100_, x101_, x102_, x103_, x104_, x105_, x106_, x107_, x108_, x109_, x110_, x111_, x112_, x113_, x114_, x115_, x116_, x117_, x118_, x119_, x120_, x121_, x122_, x123_, x124_, x125_, x126_, x127_, x128_, x129_, x130_, x131_, x132_, x133_, x134_, x135_, x136_, x137_, x138_, x139_, x140_, x141_, x142_, x143_, x144_, x145_, x146_, x147_, x148_, x149_, x150_, x151_, x152_, x153_, x154_, x155_, x156_, x157_, x158_, x159_, x160_, x161_, x162_, x163_, x164_, x165_, x166_, x167_, x168_, x169_, x170_, x171_, x172_, x173_, x174_, x175_, x176_, x177_, x178_, x179_, x180_, x181_, x182_, x183_, x184_, x185_, x186_, x187_, x188_, x189_, x190_, x191_, x192_, x193_, x194_, x195_, x196_, x197_, x198_, x199_, x200_, x201_, x202_, x203_, x204_, x205_, x206_, x207_, x208_, x209_, x210_, x211_, x212_, x213_, x214_, x215_, x216_, x217_, x218_, x219_, x220_, x221_, x222_, x223_, x224_, x225_, x226_, x227_, x228_, x229_, x230_, x231_, x232_, x233_, x234_, x235_, x236_, x237_, x238_, x239_, x240_, x241_, x242_, x243_, x244_, x245_, x246_, x247_, x248_, x249_, x250_, x251_, x252_, x253_, x254_, x255_, x256_, x257_, x258_, x259_, x260_, x261_, x262_, x263_, x264_, x265_, x266_, x267_, x268_, x269_, x270_, x271_, x272_, x273_, x274_, x275_, x276_, x277_, x278_, x279_, x280_, x281_, x282_, x283_, x284_, x285_, x286_, x287_, x288_, x289_, x290_], []⟩ wq := by
 have HQ_ := Lib.hid hQ; clear hQ
 conv => arg 2; whnf
 refine gen_act ?_
 intro F_ hF_
 have ev0 : F_.eval (.tmp 0) = .int .i64 win := by rw [← hF_]; rfl
 have ev9 : F_.eval (.tmp 9) = .pointer (some ⟨b, 0, none⟩) := by rw [← hF_]; rfl
 have ev11 : F_.eval (.tmp 11) = .int .i64 (N : Int) := by rw [← hF_]; rfl
 have ev16 : F_.eval (.tmp 16) = .pointer (some ⟨b', 0, none⟩) := by rw [← hF_]; rfl
 have ev17 : F_.eval (.tmp 17) = .int .i64 (k : Int) := by rw [← hF_]; rfl
 have ev18 : F_.eval (.tmp 18) = .slice A9 0 c9 := by rw [← hF_]; rfl
 have ev19 : F_.eval (.tmp 19) = .int .i64 0 := by rw [← hF_]; rfl
 have ev20 : F_.eval (.tmp 20) = .slice A12 0 c12 := by rw [← hF_]; rfl
 have ev21 : F_.eval (.tmp 21) = .int .i64 0 := by rw [← hF_]; rfl
 have ev22 : F_.eval (.tmp 22) = .slice A13 qc c13 := by rw [← hF_]; rfl
 have ev23 : F_.eval (.tmp 23) = .slice A14 c c14 := by rw [← hF_]; rfl
 have hsz_ : ∀ d ∈ ([(236, []), (237, [0]), (238, [1]), (239, [2]), (240, [3, 2]), (241, [2, 4]), (242, [5]), (243, [6]), (244, [7, 6]), (245, [6]), (246, [9, 6]), (247, [8, 10, 6]), (248, [11, 6]), (249, [6, 12]), (250, [13]), (251, [14]), (252, [15, 14]), (253, [14]), (254, [14]), (255, [17, 18, 14]), (256, [16, 19, 14]), (257, [14, 20]), (258, [21]), (259, [22]), (260, [23, 22]), (261, [22]), (262, [24, 25, 22]), (263, [22, 26]), (264, [27]), (265, [28]), (266, [29, 28]), (267, [28]), (268, [28]), (269, [31, 32, 28]), (270, [28]), (271, [33, 34, 28]), (272, [30, 35, 28]), (273, [28, 36]), (274, [37]), (275, [38]), (276, [39, 38]), (277, [38]), (278, [38]), (279, [41, 42, 38]), (280, [40, 43, 38]), (281, [38, 44]), (282, [45]), (283, [46]), (284, [46]), (285, [47, 48, 46]), (286, [49, 46]), (287, [46, 50]), (288, [51]), (289, [52]), (290, [52, 53]), (8, [54])] : List (Nat × List Nat)).map (·.1), d < F_.tmps.size := by rw [← hF_]; simp
 have HF_ := Lib.hid hF_; clear hF_
 refine wp_flow_tabG false rfl 56 [(236, []), (237, [0]), (238, [1]), (239, [2]), (240, [3, 2]), (241, [2, 4]), (242, [5]), (243, [6]), (244, [7, 6]), (245, [6]), (246, [9, 6]), (247, [8, 10, 6]), (248, [11, 6]), (249, [6, 12]), (250, [13]), (251, [14]), (252, [15, 14]), (253, [14]), (254, [14]), (255, [17, 18, 14]), (256, [16, 19, 14]), (257, [14, 20]), (258, [21]), (259, [22]), (260, [23, 22]), (261, [22]), (262, [24, 25, 22]), (263, [22, 26]), (264, [27]), (265, [28]), (266, [29, 28]), (267, [28]), (268, [28]), (269, [31, 32, 28]), (270, [28]), (271, [33, 34, 28]), (272, [30, 35, 28]), (273, [28, 36]), (274, [37]), (275, [38]), (276, [39, 38]), (277, [38]), (278, [38]), (279, [41, 42, 38]), (280, [40, 43, 38]), (281, [38, 44]), (282, [45]), (283, [46]), (284, [46]), (285, [47, 48, 46]), (286, [49, 46]), (287, [46, 50]), (288, [51]), (289, [52]), (290, [52, 53]), (8, [54])] [SC (.int .i64 0), SC (.bool true), SC (.bool true), SC (.int .i64 0), SC (.bool true), SC (.bool true), SC (.bool true), SC (.slice A9 0 c9), SC (.int .i64 0), SC (.slice A12 0 c12), SC (.int .i64 0), SC (.int .i64 0), SC (.bool true), SC (.bool true), SC (.bool true), SC (.pointer (some ⟨b, 0, none⟩)), SC (.int .i64 ((N : Int) - (k : Int))), SC (.int .i64 (N : Int)), SC (.int .i64 (k : Int)), SC (.int .i64 ((N : Int) - (k : Int))), SC (.bool true), SC (.bool true), SC (.bool true), SC (.pointer (some ⟨b', 0, none⟩)), SC (.int .i64 (N : Int)), SC (.int .i64 (N : Int)), SC (.bool true), SC (.bool true), SC (.bool true), SC (.slice A13 qc c13), SC (.int .i64 ((qc : Nat) : Int)), SC (.int .i64 (N : Int)), SC (.int .i64 (k : Int)), SC (.int .i64 ((N : Int) - (k : Int))), SC (.int .i64 win), SC (.int .i64 (qc : Int)), SC (.bool true), SC (.bool true), SC (.bool true), SC (.slice A14 c c14), SC (.int .i64 ((c : Nat) : Int)), SC (.int .i64 (N : Int)), SC (.int .i64 win), SC (.int .i64 (c : Int)), SC (.bool true), SC (.bool true), SC (.bool true), SC (.pointer (some ⟨b, 0, none⟩)), SMk 65537, SC (.int .i64 4), SC (.bool true), SC (.bool true), SC (.bool true), SC (.bool true), SC (.bool true), SC (.bool true)] [false, false, false, false, false, false, false, false, false, false, false, false, false, false, false, false, false, false, false, false, false, false, false, false, false, false, false, false, false, false, false, false, false, false, false, false, false, false, false, false, false, false, false, false, false, false, false, false, false, false, false, false, false, false, false, false] (by kernel_rfl) (by kernel_rfl) (by kernel_rfl) (by kernel_rfl) (by kernel_rfl) hsz_ ⟨SC.mono _, SC.mono _, SC.mono _, SC.mono _, SC.mono _, SC.mono _, SC.mono _, SC.mono _, SC.mono _, SC.mono _, SC.mono _, SC.mono _, SC.mono _, SC.mono _, SC.mono _, SC.mono _, SC.mono _, SC.mono _, SC.mono _, SC.mono _, SC.mono _, SC.mono _, SC.mono _, SC.mono _, SC.mono _, SC.mono _, SC.mono _, SC.mono _, SC.mono _, SC.mono _, SC.mono _, SC.mono _, SC.mono _, SC.mono _, SC.mono _, SC.mono _, SC.mono _, SC.mono _, SC.mono _, SC.mono _, SC.mono _, SC.mono _, SC.mono _, SC.mono _, SC.mono _, SC.mono _, SC.mono _, SC.mono _, SMk.mono _, SC.mono _, SC.mono _, SC.mono _, SC.mono _, SC.mono _, SC.mono _, SC.mono _, trivial⟩ ?_ ?_
 ·intro kq hkq a wx hB hp hs
  have hBo : Below wq.heap.size wq wx := hB
  have hcase : kq = 0 ∨ kq = 1 ∨ kq = 2 ∨ kq = 3 ∨ kq = 4 ∨ kq = 5 ∨ kq = 6 ∨ kq = 7 ∨ kq = 8 ∨ kq = 9 ∨ kq = 10 ∨ kq = 11 ∨ kq = 12 ∨ kq = 13 ∨ kq = 14 ∨ kq = 15 ∨ kq = 16 ∨ kq = 17 ∨ kq = 18 ∨ kq = 19 ∨ kq = 20 ∨ kq = 21 ∨ kq = 22 ∨ kq = 23 ∨ kq = 24 ∨ kq = 25 ∨ kq = 26 ∨ kq = 27 ∨ kq = 28 ∨ kq = 29 ∨ kq = 30 ∨ kq = 31 ∨ kq = 32 ∨ kq = 33 ∨ kq = 34 ∨ kq = 35 ∨ kq = 36 ∨ kq = 37 ∨ kq = 38 ∨ kq = 39 ∨ kq = 40 ∨ kq = 41 ∨ kq = 42 ∨ kq = 43 ∨ kq = 44 ∨ kq = 45 ∨ kq = 46 ∨ kq = 47 ∨ kq = 48 ∨ kq = 49 ∨ kq = 50 ∨ kq = 51 ∨ kq = 52 ∨ kq = 53 ∨ kq = 54 ∨ kq = 55 := by omega
  rcases hcase with rfl | rfl | rfl | rfl | rfl | rfl | rfl | rfl | rfl | rfl | rfl | rfl | rfl | rfl | rfl | rfl | rfl | rfl | rfl | rfl | rfl | rfl | rfl | rfl | rfl | rfl | rfl | rfl | rfl | rfl | rfl | rfl | rfl | rfl | rfl | rfl | rfl | rfl | rfl | rfl | rfl | rfl | rfl | rfl | rfl | rfl | rfl | rfl | rfl | rfl | rfl | rfl | rfl | rfl | rfl | rfl
  ·clear hp
   exact ⟨_, rfl, .inl ⟨wanted_none rfl, op_mv (s := SC _) rfl ((hs 19 rfl).trans ev19)⟩⟩
  ·obtain ⟨k0, -⟩ := hp
   have e0 : a.eval (.tmp 236) = .int .i64 0 := k0
   simp [Act.eval] at e0
   exact ⟨_, rfl, .inl ⟨wanted_none rfl, Does.val (by simp [execOp, Act.eval, e0, go_sem]) rfl⟩⟩
  ·obtain ⟨k0, -⟩ := hp
   exact ⟨_, rfl, .inl ⟨wanted_none rfl, op_mv (s := SC _) rfl k0⟩⟩
  ·obtain ⟨k0, -⟩ := hp
   have hgd : a.eval (.tmp 238) = .bool true := k0
   exact ⟨_, rfl, .inl ⟨(wanted_of rfl rfl hgd).trans rfl, op_mv (s := SC _) rfl ((hs 21 rfl).trans ev21)⟩⟩
  ·obtain ⟨k0, k1, -⟩ := hp
   have hgd : a.eval (.tmp 238) = .bool true := k1
   have e0 : a.eval (.tmp 239) = .int .i64 0 := k0
   simp [Act.eval] at e0
   exact ⟨_, rfl, .inl ⟨(wanted_of rfl rfl hgd).trans rfl, Does.val (by simp [execOp, Act.eval, e0, go_sem]) rfl⟩⟩
  ·obtain ⟨k0, k1, -⟩ := hp
   have e0 : a.eval (.tmp 238) = .bool true := k0
   simp [Act.eval] at e0
   have e1 : a.eval (.tmp 240) = .bool true := k1
   simp [Act.eval] at e1
   exact ⟨_, rfl, .inl ⟨wanted_none rfl, Does.val (by simp [execOp, Act.eval, e0, e1, go_sem]) rfl⟩⟩
  ·obtain ⟨k0, -⟩ := hp
   exact ⟨_, rfl, .inl ⟨wanted_none rfl, op_mv (s := SC _) rfl k0⟩⟩
  ·obtain ⟨k0, -⟩ := hp
   have hgd : a.eval (.tmp 242) = .bool true := k0
   exact ⟨_, rfl, .inl ⟨(wanted_of rfl rfl hgd).trans rfl, op_mv (s := SC _) rfl ((hs 18 rfl).trans ev18)⟩⟩
  ·obtain ⟨k0, k1, -⟩ := hp
   have hgd : a.eval (.tmp 242) = .bool true := k1
   have e0 : a.eval (.tmp 243) = .slice A9 0 c9 := k0
   simp [Act.eval] at e0
   exact ⟨_, rfl, .inl ⟨(wanted_of rfl rfl hgd).trans rfl, Does.val (by simp [execOp, Act.eval, e0, go_sem]) rfl⟩⟩
  ·obtain ⟨k0, -⟩ := hp
   have hgd : a.eval (.tmp 242) = .bool true := k0
   exact ⟨_, rfl, .inl ⟨(wanted_of rfl rfl hgd).trans rfl, op_mv (s := SC _) rfl ((hs 20 rfl).trans ev20)⟩⟩
  ·obtain ⟨k0, k1, -⟩ := hp
   have hgd : a.eval (.tmp 242) = .bool true := k1
   have e0 : a.eval (.tmp 245) = .slice A12 0 c12 := k0
   simp [Act.eval] at e0
   exact ⟨_, rfl, .inl ⟨(wanted_of rfl rfl hgd).trans rfl, Does.val (by simp [execOp, Act.eval, e0, go_sem]) rfl⟩⟩
  ·obtain ⟨k0, k1, k2, -⟩ := hp
   have hgd : a.eval (.tmp 242) = .bool true := k2
   have e0 : a.eval (.tmp 244) = .int .i64 0 := k0
   simp [Act.eval] at e0
   have e1 : a.eval (.tmp 246) = .int .i64 0 := k1
   simp [Act.eval] at e1
   exact ⟨_, rfl, .inl ⟨(wanted_of rfl rfl hgd).trans rfl, Does.val (by simp [execOp, Act.eval, e0, e1, go_sem, show IntKind.i64.wrap 0 = 0 from rfl]) rfl⟩⟩
  ·obtain ⟨k0, k1, -⟩ := hp
   have hgd : a.eval (.tmp 242) = .bool true := k1
   have e0 : a.eval (.tmp 247) = .int .i64 0 := k0
   simp [Act.eval] at e0
   exact ⟨_, rfl, .inl ⟨(wanted_of rfl rfl hgd).trans rfl, Does.val (by simp [execOp, Act.eval, e0, go_sem]) rfl⟩⟩
  ·obtain ⟨k0, k1, -⟩ := hp
   have e0 : a.eval (.tmp 242) = .bool true := k0
   simp [Act.eval] at e0
   have e1 : a.eval (.tmp 248) = .bool true := k1
   simp [Act.eval] at e1
   exact ⟨_, rfl, .inl ⟨wanted_none rfl, Does.val (by simp [execOp, Act.eval, e0, e1, go_sem]) rfl⟩⟩
  ·obtain ⟨k0, -⟩ := hp
   exact ⟨_, rfl, .inl ⟨wanted_none rfl, op_mv (s := SC _) rfl k0⟩⟩
  ·obtain ⟨k0, -⟩ := hp
   have hgd : a.eval (.tmp 250) = .bool true := k0
   exact ⟨_, rfl, .inl ⟨(wanted_of rfl rfl hgd).trans rfl, op_mv (s := SC _) rfl ((hs 9 rfl).trans ev9)⟩⟩
  ·obtain ⟨k0, k1, -⟩ := hp
   have hgd : a.eval (.tmp 250) = .bool true := k1
   exact ⟨_, rfl, .inl ⟨(wanted_of rfl rfl hgd).trans rfl, Does.rv (f := 21) (call1 rfl (fun _ => by simp [go_sem]) k0) (HWA.out wx hBo)⟩⟩
  ·obtain ⟨k0, -⟩ := hp
   have hgd : a.eval (.tmp 250) = .bool true := k0
   exact ⟨_, rfl, .inl ⟨(wanted_of rfl rfl hgd).trans rfl, op_mv (s := SC _) rfl ((hs 11 rfl).trans ev11)⟩⟩
  ·obtain ⟨k0, -⟩ := hp
   have hgd : a.eval (.tmp 250) = .bool true := k0
   exact ⟨_, rfl, .inl ⟨(wanted_of rfl rfl hgd).trans rfl, op_mv (s := SC _) rfl ((hs 17 rfl).trans ev17)⟩⟩
  ·obtain ⟨k0, k1, k2, -⟩ := hp
   have hgd : a.eval (.tmp 250) = .bool true := k2
   have e0 : a.eval (.tmp 253) = .int .i64 (N : Int) := k0
   simp [Act.eval] at e0
   have e1 : a.eval (.tmp 254) = .int .i64 (k : Int) := k1
   simp [Act.eval] at e1
   exact ⟨_, rfl, .inl ⟨(wanted_of rfl rfl hgd).trans rfl, Does.val (by simp [execOp, Act.eval, e0, e1, go_sem, (show IntKind.i64.wrap ((N : Int) - (k : Int)) = (N : Int) - (k : Int) by rw [IntKind.wrap_i64]; omega)]) rfl⟩⟩
  ·obtain ⟨k0, k1, k2, -⟩ := hp
   have hgd : a.eval (.tmp 250) = .bool true := k2
   have e0 : a.eval (.tmp 252) = .int .i64 ((N : Int) - (k : Int)) := k0
   simp [Act.eval] at e0
   have e1 : a.eval (.tmp 255) = .int .i64 ((N : Int) - (k : Int)) := k1
   simp [Act.eval] at e1
   exact ⟨_, rfl, .inl ⟨(wanted_of rfl rfl hgd).trans rfl, Does.val (by simp [execOp, Act.eval, e0, e1, go_sem]) rfl⟩⟩
  ·obtain ⟨k0, k1, -⟩ := hp
   have e0 : a.eval (.tmp 250) = .bool true := k0
   simp [Act.eval] at e0
   have e1 : a.eval (.tmp 256) = .bool true := k1
   simp [Act.eval] at e1
   exact ⟨_, rfl, .inl ⟨wanted_none rfl, Does.val (by simp [execOp, Act.eval, e0, e1, go_sem]) rfl⟩⟩
  ·obtain ⟨k0, -⟩ := hp
   exact ⟨_, rfl, .inl ⟨wanted_none rfl, op_mv (s := SC _) rfl k0⟩⟩
  ·obtain ⟨k0, -⟩ := hp
   have hgd : a.eval (.tmp 258) = .bool true := k0
   exact ⟨_, rfl, .inl ⟨(wanted_of rfl rfl hgd).trans rfl, op_mv (s := SC _) rfl ((hs 16 rfl).trans ev16)⟩⟩
  ·obtain ⟨k0, k1, -⟩ := hp
   have hgd : a.eval (.tmp 258) = .bool true := k1
   exact ⟨_, rfl, .inl ⟨(wanted_of rfl rfl hgd).trans rfl, Does.rv (f := 21) (call1 rfl (fun _ => by simp [go_sem]) k0) (HWC.out wx hBo)⟩⟩
  ·obtain ⟨k0, -⟩ := hp
   have hgd : a.eval (.tmp 258) = .bool true := k0
   exact ⟨_, rfl, .inl ⟨(wanted_of rfl rfl hgd).trans rfl, op_mv (s := SC _) rfl ((hs 11 rfl).trans ev11)⟩⟩
  ·obtain ⟨k0, k1, k2, -⟩ := hp
   have hgd : a.eval (.tmp 258) = .bool true := k2
   have e0 : a.eval (.tmp 260) = .int .i64 (N : Int) := k0
   simp [Act.eval] at e0
   have e1 : a.eval (.tmp 261) = .int .i64 (N : Int) := k1
   simp [Act.eval] at e1
   exact ⟨_, rfl, .inl ⟨(wanted_of rfl rfl hgd).trans rfl, Does.val (by simp [execOp, Act.eval, e0, e1, go_sem]) rfl⟩⟩
  ·obtain ⟨k0, k1, -⟩ := hp
   have e0 : a.eval (.tmp 258) = .bool true := k0
   simp [Act.eval] at e0
   have e1 : a.eval (.tmp 262) = .bool true := k1
   simp [Act.eval] at e1
   exact ⟨_, rfl, .inl ⟨wanted_none rfl, Does.val (by simp [execOp, Act.eval, e0, e1, go_sem]) rfl⟩⟩
  ·obtain ⟨k0, -⟩ := hp
   exact ⟨_, rfl, .inl ⟨wanted_none rfl, op_mv (s := SC _) rfl k0⟩⟩
  ·obtain ⟨k0, -⟩ := hp
   have hgd : a.eval (.tmp 264) = .bool true := k0
   exact ⟨_, rfl, .inl ⟨(wanted_of rfl rfl hgd).trans rfl, op_mv (s := SC _) rfl ((hs 22 rfl).trans ev22)⟩⟩
  ·obtain ⟨k0, k1, -⟩ := hp
   have hgd : a.eval (.tmp 264) = .bool true := k1
   have e0 : a.eval (.tmp 265) = .slice A13 qc c13 := k0
   simp [Act.eval] at e0
   exact ⟨_, rfl, .inl ⟨(wanted_of rfl rfl hgd).trans rfl, Does.val (by simp [execOp, Act.eval, e0, go_sem]) rfl⟩⟩
  ·obtain ⟨k0, -⟩ := hp
   have hgd : a.eval (.tmp 264) = .bool true := k0
   exact ⟨_, rfl, .inl ⟨(wanted_of rfl rfl hgd).trans rfl, op_mv (s := SC _) rfl ((hs 11 rfl).trans ev11)⟩⟩
  ·obtain ⟨k0, -⟩ := hp
   have hgd : a.eval (.tmp 264) = .bool true := k0
   exact ⟨_, rfl, .inl ⟨(wanted_of rfl rfl hgd).trans rfl, op_mv (s := SC _) rfl ((hs 17 rfl).trans ev17)⟩⟩
  ·obtain ⟨k0, k1, k2, -⟩ := hp
   have hgd : a.eval (.tmp 264) = .bool true := k2
   have e0 : a.eval (.tmp 267) = .int .i64 (N : Int) := k0
   simp [Act.eval] at e0
   have e1 : a.eval (.tmp 268) = .int .i64 (k : Int) := k1
   simp [Act.eval] at e1
   exact ⟨_, rfl, .inl ⟨(wanted_of rfl rfl hgd).trans rfl, Does.val (by simp [execOp, Act.eval, e0, e1, go_sem, (show IntKind.i64.wrap ((N : Int) - (k : Int)) = (N : Int) - (k : Int) by rw [IntKind.wrap_i64]; omega)]) rfl⟩⟩
  ·obtain ⟨k0, -⟩ := hp
   have hgd : a.eval (.tmp 264) = .bool true := k0
   exact ⟨_, rfl, .inl ⟨(wanted_of rfl rfl hgd).trans rfl, op_mv (s := SC _) rfl ((hs 0 rfl).trans ev0)⟩⟩
  ·obtain ⟨k0, k1, k2, -⟩ := hp
   have hgd : a.eval (.tmp 264) = .bool true := k2
   have e0 : a.eval (.tmp 269) = .int .i64 ((N : Int) - (k : Int)) := k0
   simp [Act.eval] at e0
   have e1 : a.eval (.tmp 270) = .int .i64 win := k1
   simp [Act.eval] at e1
   exact ⟨_, rfl, .inl ⟨(wanted_of rfl rfl hgd).trans rfl, Does.val (by simp [execOp, Act.eval, e0, e1, go_sem, hqw]) rfl⟩⟩
  ·obtain ⟨k0, k1, k2, -⟩ := hp
   have hgd : a.eval (.tmp 264) = .bool true := k2
   have e0 : a.eval (.tmp 266) = .int .i64 ((qc : Nat) : Int) := k0
   simp [Act.eval] at e0
   have e1 : a.eval (.tmp 271) = .int .i64 (qc : Int) := k1
   simp [Act.eval] at e1
   exact ⟨_, rfl, .inl ⟨(wanted_of rfl rfl hgd).trans rfl, Does.val (by simp [execOp, Act.eval, e0, e1, go_sem]) rfl⟩⟩
  ·obtain ⟨k0, k1, -⟩ := hp
   have e0 : a.eval (.tmp 264) = .bool true := k0
   simp [Act.eval] at e0
   have e1 : a.eval (.tmp 272) = .bool true := k1
   simp [Act.eval] at e1
   exact ⟨_, rfl, .inl ⟨wanted_none rfl, Does.val (by simp [execOp, Act.eval, e0, e1, go_sem]) rfl⟩⟩
  ·obtain ⟨k0, -⟩ := hp
   exact ⟨_, rfl, .inl ⟨wanted_none rfl, op_mv (s := SC _) rfl k0⟩⟩
  ·obtain ⟨k0, -⟩ := hp
   have hgd : a.eval (.tmp 274) = .bool true := k0
   exact ⟨_, rfl, .inl ⟨(wanted_of rfl rfl hgd).trans rfl, op_mv (s := SC _) rfl ((hs 23 rfl).trans ev23)⟩⟩
  ·obtain ⟨k0, k1, -⟩ := hp
   have hgd : a.eval (.tmp 274) = .bool true := k1
   have e0 : a.eval (.tmp 275) = .slice A14 c c14 := k0
   simp [Act.eval] at e0
   exact ⟨_, rfl, .inl ⟨(wanted_of rfl rfl hgd).trans rfl, Does.val (by simp [execOp, Act.eval, e0, go_sem]) rfl⟩⟩
  ·obtain ⟨k0, -⟩ := hp
   have hgd : a.eval (.tmp 274) = .bool true := k0
   exact ⟨_, rfl, .inl ⟨(wanted_of rfl rfl hgd).trans rfl, op_mv (s := SC _) rfl ((hs 11 rfl).trans ev11)⟩⟩
  ·obtain ⟨k0, -⟩ := hp
   have hgd : a.eval (.tmp 274) = .bool true := k0
   exact ⟨_, rfl, .inl ⟨(wanted_of rfl rfl hgd).trans rfl, op_mv (s := SC _) rfl ((hs 0 rfl).trans ev0)⟩⟩
  ·obtain ⟨k0, k1, k2, -⟩ := hp
   have hgd : a.eval (.tmp 274) = .bool true := k2
   have e0 : a.eval (.tmp 277) = .int .i64 (N : Int) := k0
   simp [Act.eval] at e0
   have e1 : a.eval (.tmp 278) = .int .i64 win := k1
   simp [Act.eval] at e1
   exact ⟨_, rfl, .inl ⟨(wanted_of rfl rfl hgd).trans rfl, Does.val (by simp [execOp, Act.eval, e0, e1, go_sem, hcw]) rfl⟩⟩
  ·obtain ⟨k0, k1, k2, -⟩ := hp
   have hgd : a.eval (.tmp 274) = .bool true := k2
   have e0 : a.eval (.tmp 276) = .int .i64 ((c : Nat) : Int) := k0
   simp [Act.eval] at e0
   have e1 : a.eval (.tmp 279) = .int .i64 (c : Int) := k1
   simp [Act.eval] at e1
   exact ⟨_, rfl, .inl ⟨(wanted_of rfl rfl hgd).trans rfl, Does.val (by simp [execOp, Act.eval, e0, e1, go_sem]) rfl⟩⟩
  ·obtain ⟨k0, k1, -⟩ := hp
   have e0 : a.eval (.tmp 274) = .bool true := k0
   simp [Act.eval] at e0
   have e1 : a.eval (.tmp 280) = .bool true := k1
   simp [Act.eval] at e1
   exact ⟨_, rfl, .inl ⟨wanted_none rfl, Does.val (by simp [execOp, Act.eval, e0, e1, go_sem]) rfl⟩⟩
  ·obtain ⟨k0, -⟩ := hp
   exact ⟨_, rfl, .inl ⟨wanted_none rfl, op_mv (s := SC _) rfl k0⟩⟩
  ·obtain ⟨k0, -⟩ := hp
   have hgd : a.eval (.tmp 282) = .bool true := k0
   exact ⟨_, rfl, .inl ⟨(wanted_of rfl rfl hgd).trans rfl, op_mv (s := SC _) rfl ((hs 9 rfl).trans ev9)⟩⟩
  ·obtain ⟨k0, -⟩ := hp
   have hgd : a.eval (.tmp 282) = .bool true := k0
   exact ⟨_, rfl, .inl ⟨(wanted_of rfl rfl hgd).trans rfl, op_mk rfl⟩⟩
  ·obtain ⟨k0, k1, k2, -⟩ := hp
   have hgd : a.eval (.tmp 282) = .bool true := k2
   obtain ⟨gm, em⟩ := k1
   exact ⟨_, rfl, .inl ⟨(wanted_of rfl rfl hgd).trans rfl, Does.rv (f := 11) (call2 rfl (fun _ => by simp [go_sem]) k0 em) (HSN.out wx gm hBo)⟩⟩
  ·obtain ⟨k0, k1, -⟩ := hp
   have hgd : a.eval (.tmp 282) = .bool true := k1
   have e0 : a.eval (.tmp 285) = .int .i64 4 := k0
   simp [Act.eval] at e0
   exact ⟨_, rfl, .inl ⟨(wanted_of rfl rfl hgd).trans rfl, Does.val (by simp [execOp, Act.eval, e0, go_sem]) rfl⟩⟩
  ·obtain ⟨k0, k1, -⟩ := hp
   have e0 : a.eval (.tmp 282) = .bool true := k0
   simp [Act.eval] at e0
   have e1 : a.eval (.tmp 286) = .bool true := k1
   simp [Act.eval] at e1
   exact ⟨_, rfl, .inl ⟨wanted_none rfl, Does.val (by simp [execOp, Act.eval, e0, e1, go_sem]) rfl⟩⟩
  ·obtain ⟨k0, -⟩ := hp
   exact ⟨_, rfl, .inl ⟨wanted_none rfl, op_mv (s := SC _) rfl k0⟩⟩
  ·obtain ⟨k0, -⟩ := hp
   have hgd : a.eval (.tmp 288) = .bool true := k0
   exact ⟨_, rfl, .inl ⟨(wanted_of rfl rfl hgd).trans rfl, Does.rc (f := 23) (call0 rfl (fun _ => by simp [go_sem])) (lives_any wx)⟩⟩
  ·obtain ⟨k0, k1, -⟩ := hp
   have e0 : a.eval (.tmp 288) = .bool true := k0
   simp [Act.eval] at e0
   have e1 : a.eval (.tmp 289) = .bool true := k1
   simp [Act.eval] at e1
   exact ⟨_, rfl, .inl ⟨wanted_none rfl, Does.val (by simp [execOp, Act.eval, e0, e1, go_sem]) rfl⟩⟩
  ·obtain ⟨k0, -⟩ := hp
   exact ⟨_, rfl, .inl ⟨wanted_none rfl, op_as (s := SC _) rfl k0⟩⟩
 ·intro val wx hB hsp hdis
  have hBo : Below wq.heap.size wq wx := hB
  have e55 : val 55 = .bool true := hsp 55 (by omega)
  rw [← HF_.out]
  change wpList _ _ _ [] _ _
  simp only [puts_consT, puts_nilm, vals, List.map_cons, List.map_nil, Nat.zero_add, Nat.reduceAdd, e55, List.setIfInBounds_toArray, List.set_cons_succ, List.set_cons_zero]
  clear hsp hdis HF_ hsz_ hB e55 ev0 ev9 ev11 ev16 ev17 ev18 ev19 ev20 ev21 ev22 ev23
  go_wp2
  exact HQ_.out val wx hBo
end Go.Proofs.Ytgdibcgphjmofaa
namespace Go.Proofs.Ytgdibcgphjmofaa
set_option maxHeartbeats 4000000
open Go.RowKit
open Go.Maps
set_option linter.unusedVariables false
theorem own_ne {w : World} {B B' T1 T2 g g' n n' c c' : Nat} {xs ys : List Value} (h : w.ownsRow B T1 1 (.slice (some ⟨g, 0, none⟩) n c) n xs) (h' : w.ownsRow B' T2 1 (.slice (some ⟨g', 0, none⟩) n' c') n' ys) (hT : T1 ≠ T2) : g ≠ g' := fun e => by
 subst e
 rcases h.2 with ⟨e, _⟩ | ⟨g1, cap, cur, e, _, hg, _⟩
 ·cases e
 ·rcases h'.2 with ⟨e', _⟩ | ⟨g2, cap', cur', e', _, hg', _⟩
  ·cases e'
  ·injection e with e1; injection e1 with e1; injection e1 with e1; subst e1
   injection e' with e2; injection e2 with e2; injection e2 with e2; subst e2
   rw [hg] at hg'
   injection hg' with hg'
   injection hg' with _ h3 _
   exact hT h3
theorem Ends.mem {B : Nat} {w : World} {b : Nat} {S : K.E} : ∀ {es : List (Nat × K.E)} {ks : List Nat}, Ends B ks w es → (b, S) ∈ es → ∃ own, EndAt w b own S
 | [], _, _, h => by simp at h
 | (b', S') :: es, ks, ⟨own, hE, _, hr⟩, h => by
  rcases List.mem_cons.1 h with e | h
  ·injection e with e1 e2
   subst e1; subst e2
   exact ⟨own, hE⟩
  ·exact Ends.mem hr h
def Wn.S1 (key : Int) (s : List UInt8) : K.E := { K.E0 1 key with owing := true, held := fun k => if k = 2 then some s else none, cnt := 1 }
theorem Wn.in2 (key : Int) (s : List UInt8) (hs : s.length ≤ 65536) : K.inn (K.E0 1 key) (K.sealed key (K.pk 2 0 s)) = ([], 0, Wn.S1 key s) := by
 have h := K.inn_sealed (S := K.E0 1 key) (p := 2) (q := 0) (s := s) (i64 (by omega) (by omega)) (i64 (by omega) (by omega)) ⟨by omega, by omega, hs, by omega⟩
 exact (show K.inn (K.E0 1 key) (K.sealed key (K.pk 2 0 s)) = _ from h).trans rfl
theorem Wn.in1 (key : Int) (m s : List UInt8) (hm : m.length ≤ 65536) : ∃ S, K.inn (Wn.S1 key s) (K.sealed key (K.pk 1 0 m)) = ([m, s], 0, S) := by
 have h := K.inn_sealed (S := Wn.S1 key s) (p := 1) (q := 0) (s := m) (i64 (by omega) (by omega)) (i64 (by omega) (by omega)) ⟨by omega, by omega, hm, by omega⟩
 exact ⟨_, (show K.inn (Wn.S1 key s) (K.sealed key (K.pk 1 0 m)) = _ from h).trans rfl⟩
theorem Wn.ok0 (key : Int) (hk : 0 ≤ key ∧ key < 18446744073709551616) : K.ok (K.E0 1 key) := ⟨by simp [K.E0], by simp [K.E0], by simp [K.E0], by simp [K.E0], by simp [K.E0], by simp [K.E0], by simp [K.E0], by simp [K.E0], by simp [K.E0], by simp [K.E0], by simp [K.E0], hk⟩
theorem Wn.ok1 (key : Int) (s : List UInt8) (hk : 0 ≤ key ∧ key < 18446744073709551616) : K.ok (Wn.S1 key s) := ⟨by simp [Wn.S1, K.E0], by simp [Wn.S1, K.E0], by simp [Wn.S1, K.E0], by simp [Wn.S1, K.E0], by simp [Wn.S1, K.E0], by simp [Wn.S1, K.E0], by simp [Wn.S1, K.E0], by simp [Wn.S1, K.E0], by simp [Wn.S1, K.E0], by simp [Wn.S1, K.E0], by simp [Wn.S1, K.E0], hk⟩
theorem Pr.inn_far {win key : Int} {M : List (List UInt8)} {de q : Nat} {ow : Bool} (hq : M.length < q) (hM : q ≤ 1000000) : K.inn (Pr.S win key M 0 de ow) (K.sealed key (K.pk 0 (q : Int) [])) = ([], 0, Pr.S win key M 0 de ow) := by
 have h := K.inn_sealed (S := Pr.S win key M 0 de ow) (p := 0) (q := (q : Int)) (s := []) (i64 (by omega) (by omega)) (Pr.n64 q (by omega)) ⟨by omega, by omega, by simp, by simp⟩
 refine (show K.inn (Pr.S win key M 0 de ow) (K.sealed key (K.pk 0 (q : Int) [])) = _ from h).trans ?_
 unfold K.into
 rw [if_pos]
 left
 show ((0 : Nat) : Int) + ((M.drop 0).length : Int) < (q : Int)
 rw [List.drop_zero]
 omega
set_option maxRecDepth 100000 in
theorem law_window_bad (win key many ack : Int) (w : World) (hbad : win < 1 ∨ 16 < win) :
  Calls Try.prog 8 #[.int .i64 win, .int .u64 key, .int .i64 many, .int .i64 ack] w fun e w' => e = .returned (.bool true) ∧ Below w.heap.size w w' := by
 have HN := Lib.hid (new_no win key w hbad)
 rcases hbad with h | h
 ·have hd := decide_eq_true h
  go_enter Try.func8, Try.ntmps8
  go_wp2_with fail
  refine HN.out.mono ?_
  rintro e w1 ⟨rfl, rfl⟩
  go_wp2_with fail
  refine (lives_any _).mono ?_
  rintro e w2 ⟨rfl, hb⟩
  go_wp2
  go_ret
  exact ⟨rfl, hb⟩
 ·have hd := decide_eq_true h
  have hd2 := decide_eq_false (show ¬ win < 1 by omega)
  go_enter Try.func8, Try.ntmps8
  go_wp2_with fail
  refine HN.out.mono ?_
  rintro e w1 ⟨rfl, rfl⟩
  go_wp2_with fail
  refine (lives_any _).mono ?_
  rintro e w2 ⟨rfl, hb⟩
  go_wp2
  go_ret
  exact ⟨rfl, hb⟩
set_option maxRecDepth 100000 in
theorem law_window_ok (win key many ack : Int) (w : World) (hw1 : 1 ≤ win) (hw2 : win ≤ 16) (hkey : 0 ≤ key ∧ key < 18446744073709551616) (hm : W.Is64 many) (ha : W.Is64 ack) :
  Calls Try.prog 8 #[.int .i64 win, .int .u64 key, .int .i64 many, .int .i64 ack] w fun e w' => e = .returned (.bool true) ∧ Below w.heap.size w w' := by
 obtain ⟨N, hN, hNb⟩ := K.ar_nat many 40 (by omega)
 have hN : K.ar many 40 = (N : Int) := hN
 have HK := Lib.hid hkey
 have HA1 : Hid (∀ w, Calls Try.prog 10 #[.int .i64 many, .int .i64 40] w fun e w' => e = .returned (.int .i64 (N : Int)) ∧ w = w') := Lib.hid (fun w => by
  have h := ar_any many 40 w hm (by omega) (by omega); rw [hN] at h; exact h)
 have HACK := Lib.hid ha
 have hd := decide_eq_false (show ¬ win < 1 by omega)
 have hd2 := decide_eq_false (show ¬ 16 < win by omega)
 clear hN hm ha hkey
 go_enter Try.func8, Try.ntmps8
 go_wp2_with fail
 refine (new_yes win key w hw1 hw2).mono ?_
 rintro e w1 ⟨b, own, rfl, hE1, kq, ho1⟩
 have HE1 := Lib.hid hE1; have ki := Lib.hid kq; have HO1 := Lib.hid ho1
 clear hE1 kq ho1
 go_wp2_with fail
 refine (HA1.out _).mono ?_
 rintro e w2 ⟨rfl, rfl⟩
 clear HA1
 go_wp2_with fail
 generalize hW2 : w1.alloc (.cells _ 5) = w2
 have hxb : Bx w2 w1.heap.size 5 [.int .u8 0] := by rw [← hW2]; exact Bx.at_ rfl
 have kj : Below w1.heap.size w1 w2 := by rw [← hW2]; exact (Below.refl _ _).alloc (Nat.le_refl _) _
 obtain ⟨gb, hgb⟩ : ∃ g, g = w1.heap.size := ⟨_, rfl⟩
 rw [← hgb] at hxb ⊢
 have HXB := Lib.hid hxb
 have HE2 : Hid (EndZ (fun k => k ≠ gb) w2 b own (Pr.S win key (Pr.Ms 0) 0 0 false)) := Lib.hid (EndZ.new (Z := fun k => k ≠ gb) (HE1.out.below kj))
 have HO2 : Hid (∀ y ∈ own, w.heap.size ≤ y ∧ y ≠ gb) := Lib.hid (fun y hy => ⟨HO1.out y hy, fun e => by have := HE1.out.lt y hy; omega⟩)
 have k2 := Lib.hid (Blw ki.out kj)
 have HGB : Hid (w.heap.size ≤ gb) := Lib.hid (by have := ki.out.size; omega)
 clear hW2 hxb kj hgb HE1 ki HO1
 go_wp2_with fail
 go_loopw [13] (fun s13 wr => ∃ (i : Nat) (own : List Nat) (x : Value), i ≤ N ∧ s13 = .int .i64 (i : Int) ∧ Hid (EndZ (fun k => k ≠ gb) wr b own (Pr.S win key (Pr.Ms i) 0 0 false)) ∧ Hid (Bx wr gb 5 [x]) ∧ Hid (∀ y ∈ own, w.heap.size ≤ y ∧ y ≠ gb) ∧ Hid (Below w.heap.size w wr)) (fun ix _ => (N - (intOf ix).toNat))
 case atStart => exact ⟨0, own, _, by omega, rfl, HE2, HXB, HO2, k2⟩
 case round =>
  clear HE2 HXB HO2 k2
  obtain ⟨i, own, x, hi2, rfl, HE, HXB, HO, HB⟩ := hrel
  obtain ⟨wo, rfl⟩ : ∃ wo : World, wo = wr := ⟨_, rfl⟩
  have f1 : wo.cell? ⟨gb, 0, none⟩ = some x := HXB.out.cell rfl
  have hf1 := HXB.out.frozen 0
  by_cases hi : i < N
  ·have hid_ := decide_eq_true (show (i : Int) < (N : Int) by omega)
   have hi3 : (i : Int) < (N : Int) := by omega
   have hw8 : IntKind.u8.wrap (i : Int) = (i : Int) := by rw [IntKind.wrap_u8]; omega
   have hx2 : Bx (wo.setCell ⟨gb, 0, none⟩ (.int .u8 (i : Int))) gb 5 [.int .u8 (i : Int)] := HXB.out.setAs rfl
   have hE2 : EndZ (fun k => k ≠ gb) (wo.setCell ⟨gb, 0, none⟩ (.int .u8 (i : Int))) b own (Pr.S win key (Pr.Ms i) 0 0 false) := HE.out.far (fun e => (HO.out gb e).2 rfl) (fun h => h rfl) _
   have hB2 : Below w.heap.size w (wo.setCell ⟨gb, 0, none⟩ (.int .u8 (i : Int))) := HB.out.setCell HGB.out _
   have hbv : BV (wo.setCell ⟨gb, 0, none⟩ (.int .u8 (i : Int))) (.slice (some ⟨gb, 0, none⟩) 1 1) (Pr.msg i) := bv_row1 (c := UInt8.ofNat i) rfl (by rw [byte80 (by omega)]; exact hx2)
   have HX2 := Lib.hid hx2; have HE2 := Lib.hid hE2; have k2 := Lib.hid hB2; have HBV := Lib.hid hbv
   clear hx2 hE2 hB2 hbv
   go_wp2_with fail
   refine (sendz (fun k => k ≠ gb) b own _ _ (Pr.msg i) _ HE2.out HBV.out (by simp [Pr.msg]) (by show ((Pr.Ms i).drop 0).length < 1000; rw [List.drop_zero, Pr.Ms_len]; omega) (fun k hk e => by have := HX2.out.lt; omega)).mono ?_
   rintro e w6 ⟨rfl, own', hE6, hT6, hn6⟩
   have HE6 : Hid (EndZ (fun k => k ≠ gb) w6 b own' (Pr.S win key (Pr.Ms (i + 1)) 0 0 false)) := Lib.hid (by
    have e : ({ Pr.S win key (Pr.Ms i) 0 0 false with wait := (Pr.S win key (Pr.Ms i) 0 0 false).wait ++ [Pr.msg i] } : K.E) = Pr.S win key (Pr.Ms (i + 1)) 0 0 false := by rw [Pr.Ms_succ]; rfl
    rw [← e]; exact hE6)
   have HX6 : Hid (Bx w6 gb 5 [.int .u8 (i : Int)]) := Lib.hid (hT6.2.2 gb _ _ HX2.out)
   have HO6 : Hid (∀ y ∈ own', w.heap.size ≤ y ∧ y ≠ gb) := Lib.hid (fun y hy => by
    rcases hn6 y hy with h | h
    ·exact HO.out y h
    ·have := HX2.out.lt; have := k2.out.size; exact ⟨by omega, by omega⟩)
   have k4 := Lib.hid (k2.out.trans (Tc.below (Below.refl _ _) hT6.1 (fun y hy => (HO.out y hy).1) k2.out.size))
   clear hE6 hT6 hn6 HE HXB HO HB f1 hf1 HX2 HE2 k2 HBV
   go_wp2
   exact ⟨⟨i + 1, own', _, by omega, by go_num, HE6, HX6, HO6, k4⟩, by simp [intOf]; omega⟩
  ·have hid_ := decide_eq_false (show ¬ (i : Int) < (N : Int) by omega)
   have hiN : i = N := by omega
   rw [hiN] at HE
   have hE2 : EndZ (fun k => k ≠ gb) (wo.setCell ⟨gb, 0, none⟩ (.int .u8 99)) b own (Pr.S win key (Pr.Ms N) 0 0 false) := HE.out.far (fun e => (HO.out gb e).2 rfl) (fun h => h rfl) _
   have hB2 : Below w.heap.size w (wo.setCell ⟨gb, 0, none⟩ (.int .u8 99)) := HB.out.setCell HGB.out _
   have HE2 := Lib.hid hE2.low; have k2 := Lib.hid hB2
   clear hE2 hB2 hiN HE HB
   go_wp2_with fail
   generalize hW3 : wo.setCell ⟨gb, 0, none⟩ (.int .u8 99) = w3 at *
   clear hW3
   refine (outz (fun k => k < w3.heap.size) b own _ w3 HE2.out (Pr.ok hw1 hw2 HK.out (by omega) (by omega) (by omega))).mono ?_
   rintro e w5 ⟨v5, rfl, hr5, hE5, hT5⟩
   obtain ⟨c, hc⟩ : ∃ c, c = Pr.c N 0 win := ⟨_, rfl⟩
   have hcN : c ≤ N := by rw [hc]; unfold Pr.c; omega
   have hcw : (c : Int) = if win < (N : Int) then win else (N : Int) := by rw [hc]; unfold Pr.c; split <;> omega
   have hout : K.out (Pr.S win key (Pr.Ms N) 0 0 false) = (List.range c).map (Pr.pk key 0 0) := by rw [hc]; exact Pr.out_msgs (.inr rfl)
   rw [hout] at hr5
   obtain ⟨vs, ho5, he5, ha5⟩ := hr5
   rw [List.length_map, List.length_range] at ho5
   have HE5 : Hid (EndZ (fun k => k < w3.heap.size) w5 b own (Pr.S win key (Pr.Ms N) 0 0 false)) := Lib.hid hE5
   have k6 := Lib.hid (k2.out.trans (Tc.below (Below.refl _ _) hT5.1 (fun y hy => (HO.out y hy).1) k2.out.size))
   have HOW : Hid (∀ y ∈ own, w.heap.size ≤ y ∧ y < w3.heap.size) := Lib.hid (fun y hy => ⟨(HO.out y hy).1, HE2.out.lt y hy⟩)
   have HEL : Hid (∀ (i : Nat) (u : Value), i < c → vs[i]? = some u → w5.ownsRow w3.heap.size 5 1 u (K.sealed key (K.pk ((i : Int) + 1) 0 (Pr.msg i))).length (W.bc (K.sealed key (K.pk ((i : Int) + 1) 0 (Pr.msg i))))) := Lib.hid (fun i u hi hu => by
    have h := he5 i u (Pr.pk key 0 0 i) hu (by rw [List.getElem?_map, List.getElem?_range hi]; rfl)
    rwa [Pr.pk0] at h)
   have HAP := Lib.hid ha5
   obtain ⟨Ap, cp, rfl, hcp, hmp, -⟩ := own_form ho5
   have HO5 := Lib.hid ho5
   have HVL : Hid (vs.length = c) := Lib.hid (by have := ho5.1; omega)
   have hw3 : w.heap.size ≤ w3.heap.size := k2.out.size
   have HCW := Lib.hid hcw; have HCC := Lib.hid hc
   clear hE5 hT5 hout ho5 he5 ha5 hcp hmp hcw hc HE2 k2 HXB HO f1 hf1 hid_ hi hi2
   go_wp2_with fail
   go_loopw [15] (fun s15 wr => ∃ j : Nat, j ≤ c ∧ s15 = .int .i64 (j : Int) ∧ Hid (EndZ (fun k => k < w3.heap.size) wr b own (Pr.S win key (Pr.Ms N) 0 0 false)) ∧ Hid (wr.ownsRow w3.heap.size 33 1 (.slice Ap c cp) c vs) ∧ Hid (∀ (i : Nat) (u : Value), j ≤ i → i < c → vs[i]? = some u → wr.ownsRow w3.heap.size 5 1 u (K.sealed key (K.pk ((i : Int) + 1) 0 (Pr.msg i))).length (W.bc (K.sealed key (K.pk ((i : Int) + 1) 0 (Pr.msg i))))) ∧ Hid (Below w.heap.size w wr)) (fun ix _ => (c - (intOf ix).toNat))
   case atStart => exact ⟨0, by omega, rfl, HE5, HO5, Lib.hid (fun i u _ h1 h2 => HEL.out i u h1 h2), k6⟩
   case round =>
    clear HE5 HO5 HEL k6
    obtain ⟨j, hj2, rfl, HE, HOR, HEL, HB⟩ := hrel
    obtain ⟨wo, rfl⟩ : ∃ wo : World, wo = wr := ⟨_, rfl⟩
    by_cases hj : j < c
    ·have hjd := decide_eq_true (show (j : Int) < (c : Int) by omega)
     have hj3 : (j : Int) < (c : Int) := by omega
     have hj4 : (0 : Int) ≤ (j : Int) := by omega
     obtain ⟨u, hu⟩ : ∃ u, vs[j]? = some u := ⟨_, List.getElem?_eq_getElem (by rw [HVL.out]; exact hj)⟩
     have hou := HEL.out j u (Nat.le_refl _) hj hu
     obtain ⟨hl1, hl2⟩ := Pr.pk_len key ((j : Int) + 1) 0 j
     obtain ⟨L, hL⟩ : ∃ L, L = K.sealed key (K.pk ((j : Int) + 1) 0 (Pr.msg j)) := ⟨_, rfl⟩
     rw [← hL] at hou hl1 hl2
     obtain ⟨gu, cu, rfl, -, -, hgu, hgus⟩ := own_pos hou (by omega)
     obtain ⟨gp, cp', ep, -, -, hgp, -⟩ := own_pos HOR.out (by omega)
     have hap : Ap = some ⟨gp, 0, none⟩ := by injection ep
     subst hap
     obtain ⟨nu, hnu⟩ : ∃ n, n = L.length := ⟨_, rfl⟩
     have hcell := own_cells HOR.out j _ hu
     rw [Addr.add_lit, Nat.zero_add] at hcell
     have hbv : BV wo (.slice (some ⟨gu, 0, none⟩) L.length cu) L := BV.own hou
     rw [← hnu] at hcell hbv hl2
     rw [hL] at hbv
     have hlt : gp < wo.heap.size := (HOR.out.lt gp rfl).2
     have HCP : Hid (∀ wx, Below wo.heap.size wo wx → wx.cell? ⟨gp, j, none⟩ = some (.slice (some ⟨gu, 0, none⟩) nu cu)) := Lib.hid (fun wx hb => (hb.cell (p := ⟨gp, j, none⟩) hlt).trans hcell)
     have HBU := Lib.hid hbv
     have hne : gp ≠ gu := own_ne HOR.out hou (by decide)
     obtain ⟨x0, hx0⟩ : ∃ x0, L[0]? = some x0 := ⟨_, List.getElem?_eq_getElem (by omega)⟩
     have k7 := own_cells hou 0 _ (bc_some hx0)
     rw [Addr.add_lit, Nat.zero_add] at k7
     have HC0 : Hid (∀ wx, Below wo.heap.size wo wx → wx.cell? ⟨gu, 0, none⟩ = some (.int .u8 (x0.toNat : Int))) := Lib.hid (fun wx hb => (hb.cell (p := ⟨gu, 0, none⟩) hgus).trans k7)
     have HOU := Lib.hid hou; have HU := Lib.hid hu
     have hnu8 : (0 : Int) < (nu : Int) := by omega
     have hnu9 : 0 < nu := by omega
     clear hcell hbv hou hL hl1 hx0 k7 ep hu
     go_upto_region 19 with fail
     refine wn_reg19 wo key gp c cp j nu cu (some ⟨gu, 0, none⟩) HK.out (by omega) hj3 hj4 HCP HBU _ _ _ _ _ _ _ _ _ _ _ _ _ _ _ _ _ _ _ _ _ _ _ _ _ _ _ _ _ _ _ _ _ _ _ _ _ _ _ _ _ _ _ _ _ _ _ _ _ _ _ _ _ _ _ _ _ _ _ _ _ _ _ _ _ _ _ _ _ _ _ _ _ _ _ _ _ _ _ _ _ _ _ _ _ _ _ _ _ _ _ _ _ _ _ _ _ _ _ _ _ _ _ _ _ _ _ _ _ _ _ _ _ _ _ _ _ _ _ _ _ _ _ _ _ _ _ _ _ _ _ _ _ _ _ _ _ _ _ _ _ _ _ _ _ _ _ _ _ _ _ _ _ _ _ _ _ _ _ _ _ _ _ _ _ _ _ _ _ _ _ _ _ _ _ _ _ _ _ _ _ _ _ _ _ _ _ _ _ _ _ _ _ _ _ _ _ _ _ _ _ _ _ _ _ _ _ _ _ _ _ _ _ _ _ _ _ _ _ _ _ _ _ _ _ _ _ _ _ _ _ _ _ _ _ _ _ _ _ _ _ _ _ _ _ _ _ _ _ _ _ _ _ _ _ _ _ _ _ _ _ _ _ _ _ _ _ _ _ _ _ _ _ _ _ _ _ _ _ _ _ _ _ _ _ _ _ _ (fun val wx hBo => ?_)
     have hfz := own_frozen (own_below HOU.out hBo) 0
     have k7 := HC0.out wx hBo
     have hcp := HCP.out wx hBo
     have HE6 : Hid (EndZ (fun k => k < w3.heap.size) (wx.setCell ⟨gu, 0, none⟩ (.int .u8 77)) b own (Pr.S win key (Pr.Ms N) 0 0 false)) := Lib.hid ((HE.out.below hBo).far (fun e => by have := (HOW.out gu e).2; omega) (by omega) _)
     have HO6 := Lib.hid (row_set (own_below HOR.out hBo) (p := ⟨gu, 0, none⟩) (fun k hk => by
      have hk : some gp = some k := hk
      injection hk with hk
      rw [← hk]; exact hne) (.int .u8 77))
     have HEL6 : Hid (∀ (i : Nat) (u : Value), j + 1 ≤ i → i < c → vs[i]? = some u → (wx.setCell ⟨gu, 0, none⟩ (.int .u8 77)).ownsRow w3.heap.size 5 1 u (K.sealed key (K.pk ((i : Int) + 1) 0 (Pr.msg i))).length (W.bc (K.sealed key (K.pk ((i : Int) + 1) 0 (Pr.msg i))))) := Lib.hid (fun i u h1 h2 h3 => row_set (own_below (HEL.out i u (by omega) h2 h3) hBo) (p := ⟨gu, 0, none⟩) (fun k hk e => HAP.out i j u _ h3 HU.out (by omega) k hk (by rw [e]; rfl)) (.int .u8 77))
     have k4 : Hid (Below w.heap.size w (wx.setCell ⟨gu, 0, none⟩ (.int .u8 77))) := Lib.hid ((Blw HB.out hBo).setCell (by show w.heap.size ≤ gu; omega) _)
     clear hBo HCP HC0 HBU HOU HU HE HOR HEL HB
     go_wp2
     exact ⟨⟨j + 1, by omega, by go_num, HE6, HO6, HEL6, k4⟩, by simp [intOf]; omega⟩
    ·have hjd := decide_eq_false (show ¬ (j : Int) < (c : Int) by omega)
     have HEN0 : Hid (Ends w.heap.size [] wo [(b, Pr.S win key (Pr.Ms N) 0 0 false)]) := Lib.hid ⟨own, HE.out.at_, fun x hx => ⟨(HOW.out x hx).1, by simp⟩, fun k hk => HE.out.lt k (by simpa using hk)⟩
     have hcp := copy_any b own _ wo HE.out.at_ (by show ((Pr.Ms N).drop 0).length ≤ _; rw [List.drop_zero, Pr.Ms_len]; omega) (by show 0 ≤ _; omega)
     have HCPY := Lib.hid hcp
     clear hcp HE HOR HEL
     go_wp2_with fail
     refine HCPY.out.mono ?_
     rintro e w6 ⟨b', own', rfl, hE6, kk, ho6⟩
     have HEN6 := Lib.hid (Ends.new HEN0.out hE6 kk ho6 HB.out.size)
     have k4 := Lib.hid (Blw HB.out kk)
     clear hE6 kk ho6 HEN0 HCPY HB
     have hmin : (if win < (N : Int) then win else (N : Int)) = (c : Int) := HCW.out.symm
     obtain ⟨k, hk, hkN⟩ := K.ar_nat ack (N + 1) (by omega)
     have hk : K.ar ack ((N : Int) + 1) = (k : Int) := hk
     have HA2 : Hid (∀ w, Calls Try.prog 10 #[.int .i64 ack, .int .i64 ((N : Int) + 1)] w fun e w' => e = .returned (.int .i64 (k : Int)) ∧ w = w') := Lib.hid (fun w => by
      have h := ar_any ack ((N : Int) + 1) w HACK.out (by omega) (by omega); rw [hk] at h; exact h)
     have HP7 := Lib.hid (rpk_any 0 ((N : Int) + 1) none 0 w6.heap.size [] w6 (Rd.nil _ _ _) (Nat.le_refl _) (i64 (by omega) (by omega)) (i64 (by omega) (by omega)) (by simp))
     clear hk
     go_wp2_with fail
     refine (HA2.out _).mono ?_
     rintro e w7 ⟨rfl, rfl⟩
     clear HA2 hmin
     go_wp2_with fail
     refine HP7.out.mono ?_
     rintro e w7 ⟨v7, rfl, ho7, kl⟩
     have hv7 : BV w7 v7 (K.pk 0 ((N : Int) + 1) []) := BV.own ho7
     obtain ⟨A7, c7, rfl, -⟩ := own_form ho7
     have HRS := Lib.hid (rseal_bv key HK.out hv7 (by have := K.pk_len 0 ((N : Int) + 1) [] (by simp); omega))
     have HEN7 := Lib.hid (HEN6.out.below kl)
     have ks := Lib.hid (Blw k4.out kl)
     clear ho7 kl hv7 HP7 HEN6 k4
     go_wp2_with fail
     refine HRS.out.mono ?_
     rintro e w8 ⟨v8, rfl, ho8, km⟩
     have hv8 : BV w8 v8 (K.sealed key (K.pk 0 ((N : Int) + 1) [])) := BV.own ho8
     obtain ⟨A8, c8, rfl, -⟩ := own_form ho8
     have HV8 := Lib.hid hv8
     have HEN8 := Lib.hid (HEN7.out.below km).swap
     have k8 := Lib.hid (Blw ks.out km)
     have HL8 : Hid ((K.sealed key (K.pk 0 ((N : Int) + 1) [])).length ≤ 1000000000000) := Lib.hid (by have := K.pk_len 0 ((N : Int) + 1) [] (by simp); unfold K.sealed; rw [List.length_append, K.seal8_len]; omega)
     have HI8 : Hid (K.inn (Pr.S win key (Pr.Ms N) 0 0 false) (K.sealed key (K.pk 0 ((N : Int) + 1) [])) = ([], 0, Pr.S win key (Pr.Ms N) 0 0 false)) := Lib.hid (Pr.inn_far (q := N + 1) (by rw [Pr.Ms_len]; omega) (by omega))
     have HOK0 : Hid (K.ok (Pr.S win key (Pr.Ms N) 0 0 false)) := Lib.hid (Pr.ok hw1 hw2 HK.out (by omega) (by omega) (by omega))
     clear ho8 km hv8 HRS HEN7 ks
     generalize hn8 : (K.sealed key (K.pk 0 ((N : Int) + 1) [])).length = n8 at HV8 ⊢
     clear hn8
     go_wp2_with fail
     refine (ends_in HEN8.out k8.out.size HOK0.out HV8.out HL8.out).mono ?_
     rintro e w9 ⟨v9, rfl, hr9, hE9, hK9⟩
     rw [HI8.out] at hr9 hE9 ⊢
     obtain ⟨A9, c9, rfl, -⟩ := hr9.form
     have HEN9 := Lib.hid (hE9.sub (ks' := []) (by simp))
     have kt := Lib.hid (k8.out.trans (hK9.below k8.out.size))
     clear hr9 hE9 hK9 HEN8 k8 HV8 HL8 HI8
     simp only [List.length_nil]
     have HP10 := Lib.hid (rpk_any 0 (k : Int) none 0 w9.heap.size [] w9 (Rd.nil _ _ _) (Nat.le_refl _) (i64 (by omega) (by omega)) (i64 (by omega) (by omega)) (by simp))
     go_wp2_with fail
     refine HP10.out.mono ?_
     rintro e w10 ⟨v10, rfl, ho10, kn⟩
     have hv10 : BV w10 v10 (K.pk 0 (k : Int) []) := BV.own ho10
     obtain ⟨A10, c10, rfl, -⟩ := own_form ho10
     have HRS := Lib.hid (rseal_bv key HK.out hv10 (by have := K.pk_len 0 (k : Int) [] (by simp); omega))
     have HEN10 := Lib.hid (HEN9.out.below kn)
     have ku := Lib.hid (Blw kt.out kn)
     clear ho10 kn hv10 HP10 HEN9 kt
     go_wp2_with fail
     refine HRS.out.mono ?_
     rintro e w11 ⟨v11, rfl, ho11, ko⟩
     have hv11 : BV w11 v11 (K.sealed key (K.pk 0 (k : Int) [])) := BV.own ho11
     obtain ⟨A11, c11, rfl, -⟩ := own_form ho11
     have HV11 := Lib.hid hv11
     have HEN11 := Lib.hid (HEN10.out.below ko)
     have k9 := Lib.hid (Blw ku.out ko)
     have HL11 : Hid ((K.sealed key (K.pk 0 (k : Int) [])).length ≤ 1000000000000) := Lib.hid (by have := K.pk_len 0 (k : Int) [] (by simp); unfold K.sealed; rw [List.length_append, K.seal8_len]; omega)
     have HI11 : Hid (K.inn (Pr.S win key (Pr.Ms N) 0 0 false) (K.sealed key (K.pk 0 (k : Int) [])) = ([], 0, Pr.S win key (Pr.Ms N) k 0 false)) := Lib.hid (by
      have h := Pr.inn_ack (win := win) (key := key) (M := Pr.Ms N) (ac := 0) (de := 0) (q := k) (ow := false) (by rw [Pr.Ms_len]; omega) (by omega) (by rw [Pr.Ms_len]; omega)
      rwa [Nat.zero_max] at h)
     clear ho11 ko hv11 HRS HEN10 ku
     generalize hn11 : (K.sealed key (K.pk 0 (k : Int) [])).length = n11 at HV11 ⊢
     clear hn11
     go_wp2_with fail
     refine (ends_in HEN11.out k9.out.size HOK0.out HV11.out HL11.out).mono ?_
     rintro e w12 ⟨v12, rfl, hr12, hE12, hK12⟩
     rw [HI11.out] at hr12 hE12 ⊢
     obtain ⟨A12, c12, rfl, -⟩ := hr12.form
     have HEN12 := Lib.hid (hE12.sub (ks' := []) (by simp))
     have ka := Lib.hid (k9.out.trans (hK12.below k9.out.size))
     clear hr12 hE12 hK12 HEN11 k9 HV11 HL11 HI11
     simp only [List.length_nil]
     have HOK1 : Hid (K.ok (Pr.S win key (Pr.Ms N) k 0 false)) := Lib.hid (Pr.ok hw1 hw2 HK.out (by omega) (by omega) (by omega))
     go_wp2_with fail
     refine (ends_out HEN12.out ka.out.size HOK1.out).mono ?_
     rintro e w13 ⟨v13, rfl, hr13, hE13, hK13⟩
     obtain ⟨qc, hqc⟩ : ∃ qc, qc = Pr.c N k win := ⟨_, rfl⟩
     have hqw : (qc : Int) = if win < (N : Int) - (k : Int) then win else (N : Int) - (k : Int) := by rw [hqc]; unfold Pr.c; split <;> omega
     rw [show K.out (Pr.S win key (Pr.Ms N) k 0 false) = (List.range qc).map (Pr.pk key k 0) from by rw [hqc]; exact Pr.out_msgs (.inr rfl)] at hr13
     obtain ⟨A13, c13, rfl, -⟩ := hr13.form
     rw [List.length_map, List.length_range]
     have HEN13 : Hid (Ends w.heap.size [] w13 [(b', Pr.S win key (Pr.Ms N) 0 0 false), (b, Pr.S win key (Pr.Ms N) k 0 false)]) := Lib.hid ((hE13.sub (ks' := []) (by simp)).swap)
     have kc := Lib.hid (ka.out.trans (hK13.below ka.out.size))
     have HQW := Lib.hid hqw
     clear hr13 hE13 hK13 HEN12 ka hqw hqc
     go_wp2_with fail
     refine (ends_out HEN13.out kc.out.size HOK0.out).mono ?_
     rintro e w14 ⟨v14, rfl, hr14, hE14, hK14⟩
     rw [show K.out (Pr.S win key (Pr.Ms N) 0 0 false) = (List.range c).map (Pr.pk key 0 0) from by rw [HCC.out]; exact Pr.out_msgs (.inr rfl)] at hr14
     obtain ⟨A14, c14, ev14, -⟩ := hr14.form
     rw [List.length_map, List.length_range] at ev14
     obtain ⟨kr, hkr⟩ : ∃ kr, kr = v14.ownBlock.toList := ⟨_, rfl⟩
     have HKR : Hid (∀ x, v14.ownBlock = some x → x ∈ kr) := Lib.hid (fun x hx => by rw [hkr, hx]; simp)
     rw [← hkr, List.append_nil] at hE14
     have HEN14 : Hid (Ends w.heap.size kr w14 [(b', Pr.S win key (Pr.Ms N) 0 0 false), (b, Pr.S win key (Pr.Ms N) k 0 false)]) := Lib.hid hE14
     have kv := Lib.hid (kc.out.trans (hK14.below kc.out.size))
     have HR14 := Lib.hid hr14
     subst ev14
     clear hr14 hE14 hK14 HEN13 kc hkr
     go_wp2_with fail
     go_loopw [24] (fun s24 wr => ∃ j : Nat, j ≤ c ∧ s24 = .int .i64 (j : Int) ∧ Hid (Below w14.heap.size w14 wr)) (fun ix _ => (c - (intOf ix).toNat))
     case atStart => exact ⟨0, by omega, rfl, Lib.hid (Below.refl _ _)⟩
     case round =>
      obtain ⟨j2, hj2, rfl, HBJ⟩ := hrel
      obtain ⟨wo2, rfl⟩ : ∃ wo2 : World, wo2 = wr := ⟨_, rfl⟩
      by_cases hj : j2 < c
      ·have hjd := decide_eq_true (show (j2 : Int) < (c : Int) by omega)
       have hj3 : (j2 : Int) < (c : Int) := by omega
       have hj4 : (0 : Int) ≤ (j2 : Int) := by omega
       obtain ⟨gp, cq, u, ep, hcu, hbu, -, -⟩ := (HR14.out.below HBJ.out).at_ (i := j2) (l := Pr.pk key 0 0 j2) (by rw [List.getElem?_map, List.getElem?_range hj]; rfl)
       have hap : A14 = some ⟨gp, 0, none⟩ := by injection ep
       subst hap
       rw [Pr.pk0] at hbu
       have HBU := Lib.hid hbu
       obtain ⟨Au, cu, rfl, -⟩ := hbu
       have HCP := Lib.hid (fun (wx : World) (hb : Below wo2.heap.size wo2 wx) => (hb.cell (p := ⟨gp, j2, none⟩) (World.block_lt_of_cell? wo2 ⟨gp, j2, none⟩ hcu)).trans hcu)
       clear hcu ep
       go_upto_region 33 with fail
       refine wn_reg33 wo2 key gp c c14 j2 _ cu Au HK.out (by omega) hj3 hj4 HCP HBU _ _ _ _ _ _ _ _ _ _ _ _ _ _ _ _ _ _ _ _ _ _ _ _ _ _ _ _ _ _ _ _ _ _ _ _ _ _ _ _ _ _ _ _ _ _ _ _ _ _ _ _ _ _ _ _ _ _ _ _ _ _ _ _ _ _ _ _ _ _ _ _ _ _ _ _ _ _ _ _ _ _ _ _ _ _ _ _ _ _ _ _ _ _ _ _ _ _ _ _ _ _ _ _ _ _ _ _ _ _ _ _ _ _ _ _ _ _ _ _ _ _ _ _ _ _ _ _ _ _ _ _ _ _ _ _ _ _ _ _ _ _ _ _ _ _ _ _ _ _ _ _ _ _ _ _ _ _ _ _ _ _ _ _ _ _ _ _ _ _ _ _ _ _ _ _ _ _ _ _ _ _ _ _ _ _ _ _ _ _ _ _ _ _ _ _ _ _ _ _ _ _ _ _ _ _ _ _ _ _ _ _ _ _ _ _ _ _ _ _ _ _ _ _ _ _ _ _ _ _ _ _ _ _ _ _ _ _ _ _ _ _ _ _ _ _ _ _ _ _ _ _ _ _ _ _ _ _ _ _ _ _ _ _ _ _ _ _ _ _ _ _ _ _ _ _ _ _ _ _ _ _ _ _ _ _ _ _ (fun val wx hBo => ?_)
       have k6 := Lib.hid (Blw HBJ.out hBo)
       clear hBo HBU HCP HBJ
       go_wp2
       exact ⟨⟨j2 + 1, by omega, by go_num, k6⟩, by simp [intOf]; omega⟩
      ·have hjd := decide_eq_false (show ¬ (j2 : Int) < (c : Int) by omega)
       have HEN15 := Lib.hid (HEN14.out.below HBJ.out)
       have HR15 := Lib.hid (HR14.out.below HBJ.out)
       have kd := Lib.hid (Blw kv.out HBJ.out)
       clear HEN14 HR14 kv HBJ
       by_cases kw : 1 < c
       ·have hcd := decide_eq_true (show (1 : Int) < (c : Int) by omega)
        have kx : (1 : Int) < (c : Int) := by omega
        have kz : (0 : Int) < (c : Int) := by omega
        go_wp2_with fail
        refine (new_yes 1 key wo2 (by omega) (by omega)).mono ?_
        rintro e w16 ⟨d, ownd, rfl, hE16, ke, ho16⟩
        have HEN16 := Lib.hid (Ends.new HEN15.out hE16 ke ho16 kd.out.size)
        have HR16 := Lib.hid (HR15.out.below ke)
        have kf := Lib.hid (Blw kd.out ke)
        obtain ⟨gp, cq, us, ep, hcu, hvu, hlu, -, -, -, -⟩ := HR16.out.rep (by rw [List.length_map, List.length_range]; omega)
        have hap : A14 = some ⟨gp, 0, none⟩ := by injection ep
        subst hap
        rw [List.length_map, List.length_range] at hlu
        obtain ⟨u1, hu1⟩ : ∃ u, us[1]? = some u := ⟨_, List.getElem?_eq_getElem (by omega)⟩
        obtain ⟨u0, hu0⟩ : ∃ u, us[0]? = some u := ⟨_, List.getElem?_eq_getElem (by omega)⟩
        have hbv1 := hvu.2 1 u1 (Pr.pk key 0 0 1) hu1 (by rw [List.getElem?_map, List.getElem?_range kw]; rfl)
        have hbv0 := hvu.2 0 u0 (Pr.pk key 0 0 0) hu0 (by rw [List.getElem?_map, List.getElem?_range (by omega)]; rfl)
        rw [Pr.pk0] at hbv1 hbv0
        have e1 : K.sealed key (K.pk (((1 : Nat) : Int) + 1) 0 (Pr.msg 1)) = K.sealed key (K.pk 2 0 (Pr.msg 1)) := rfl
        have e0 : K.sealed key (K.pk (((0 : Nat) : Int) + 1) 0 (Pr.msg 0)) = K.sealed key (K.pk 1 0 (Pr.msg 0)) := rfl
        rw [e1] at hbv1
        rw [e0] at hbv0
        have f1 := hcu 1 u1 hu1
        have f0 := hcu 0 u0 hu0
        have HBV1 := Lib.hid hbv1; have HBV0 := Lib.hid hbv0
        obtain ⟨U1, k1, rfl, -⟩ := hbv1
        obtain ⟨U0, k0, rfl, -⟩ := hbv0
        have hgK : gp ∈ kr := HKR.out gp rfl
        have F0 := Lib.hid f0
        generalize hl1 : (K.sealed key (K.pk 2 0 (Pr.msg 1))).length = l1 at HBV1 f1
        generalize hl0 : (K.sealed key (K.pk 1 0 (Pr.msg 0))).length = l0 at HBV0 f0 F0
        have HL1 := Lib.hid hl1; have HL0 := Lib.hid hl0
        clear hE16 ke ho16 HEN15 HR15 kd hvu hcu hlu hu1 hu0 ep hl1 hl0 e1 e0
        go_wp2_with fail
        refine (ends_in HEN16.out kf.out.size (Wn.ok0 key HK.out) HBV1.out (Pr.pk_len key 2 0 1).1).mono ?_
        rintro e w17 ⟨v17, rfl, hr17, hE17, hK17⟩
        rw [Wn.in2 key (Pr.msg 1) (by simp [Pr.msg])] at hr17 hE17 ⊢
        obtain ⟨A17, c17, rfl, -⟩ := hr17.form
        have HEN17 := Lib.hid (hE17.sub (ks' := kr) (fun x hx => List.mem_append.2 (.inr hx)))
        have kp := Lib.hid (kf.out.trans (hK17.below kf.out.size))
        have f0 := hK17.cell hgK F0.out
        have F0 := Lib.hid f0
        have HBV0 := Lib.hid (HBV0.out.kb hK17.kb)
        clear hr17 hE17 hK17 HEN16 kf HR16 HBV1 f1
        simp only [List.length_nil]
        obtain ⟨od, hEd, hkd, hrd⟩ := HEN17.out
        have hcp := copy_any d od _ w17 hEd (by show 0 ≤ _; omega) (by show 1 ≤ _; omega)
        have HCPY := Lib.hid hcp
        clear hEd hkd hrd hcp
        go_wp2_with fail
        refine HCPY.out.mono ?_
        rintro e w18 ⟨o, owno, rfl, hE18, k5, ho18⟩
        have HEN18 := Lib.hid (Ends.new HEN17.out hE18 k5 ho18 kp.out.size).swap
        have kg := Lib.hid (Blw kp.out k5)
        have f0 : w18.cell? ⟨gp, 0, none⟩ = _ := (k5.cell (p := ⟨gp, 0, none⟩) (HEN17.out.kslt gp hgK)).trans F0.out
        have F0 := Lib.hid f0
        have HBV0 := Lib.hid (HBV0.out.below k5)
        obtain ⟨S2, hin1⟩ := Wn.in1 key (Pr.msg 0) (Pr.msg 1) (by simp [Pr.msg])
        have HIN := Lib.hid hin1
        clear hE18 k5 ho18 HEN17 kp hin1 HCPY
        go_wp2_with fail
        refine (ends_in HEN18.out kg.out.size (Wn.ok1 key _ HK.out) HBV0.out (Pr.pk_len key 1 0 0).1).mono ?_
        rintro e w19 ⟨v19, rfl, hr19, hE19, hK19⟩
        rw [HIN.out] at hr19 hE19 ⊢
        obtain ⟨A19, c19, rfl, -⟩ := hr19.form
        have HEN19 := Lib.hid (hE19.sub (ks' := kr) (fun x hx => List.mem_append.2 (.inr hx))).swap
        have kh := Lib.hid (kg.out.trans (hK19.below kg.out.size))
        have f0 := hK19.cell hgK F0.out
        have HBV0 := Lib.hid (HBV0.out.kb hK19.kb)
        clear hr19 hE19 hK19 HEN18 kg F0
        simp only [List.length_cons, List.length_nil, Nat.reduceAdd]
        go_wp2_with fail
        refine (ends_in HEN19.out kh.out.size (Wn.ok1 key _ HK.out) HBV0.out (Pr.pk_len key 1 0 0).1).mono ?_
        rintro e w20 ⟨v20, rfl, hr20, hE20, hK20⟩
        rw [HIN.out] at hr20 hE20 ⊢
        obtain ⟨A20, c20, rfl, -⟩ := hr20.form
        have HEN20 := Lib.hid hE20
        have ky := Lib.hid (kh.out.trans (hK20.below kh.out.size))
        clear hr20 hE20 hK20 HEN19 kh HBV0 f0
        simp only [List.length_cons, List.length_nil, Nat.reduceAdd]
        have HBW := ky
        obtain ⟨oa, hEa⟩ := Ends.mem HEN20.out (b := b) (S := Pr.S win key (Pr.Ms N) k 0 false) (by simp)
        obtain ⟨oc, hEc⟩ := Ends.mem HEN20.out (b := b') (S := Pr.S win key (Pr.Ms N) 0 0 false) (by simp)
        have HWA : Hid (∀ wx, Below w20.heap.size w20 wx → Calls Try.prog 21 #[.pointer (some ⟨b, 0, none⟩)] wx fun e w' => e = .returned (.int .i64 ((N : Int) - (k : Int))) ∧ wx = w') := Lib.hid (fun wx hb => by
         have h := waiting_any b oa _ wx (hEa.below hb)
         rwa [show (((Pr.S win key (Pr.Ms N) k 0 false).wait.length : Nat) : Int) = (N : Int) - (k : Int) from by show ((((Pr.Ms N).drop k).length : Nat) : Int) = _; rw [List.length_drop, Pr.Ms_len]; omega] at h)
        have HWC : Hid (∀ wx, Below w20.heap.size w20 wx → Calls Try.prog 21 #[.pointer (some ⟨b', 0, none⟩)] wx fun e w' => e = .returned (.int .i64 (N : Int)) ∧ wx = w') := Lib.hid (fun wx hb => by
         have h := waiting_any b' oc _ wx (hEc.below hb)
         rwa [show (((Pr.S win key (Pr.Ms N) 0 0 false).wait.length : Nat) : Int) = (N : Int) from by show ((((Pr.Ms N).drop 0).length : Nat) : Int) = _; rw [List.drop_zero, Pr.Ms_len]] at h)
        have HSN : Hid (∀ wx g, Below w20.heap.size w20 wx → Calls Try.prog 11 #[.pointer (some ⟨b, 0, none⟩), .slice (some ⟨g, 0, none⟩) 65537 65537] wx fun e w' => e = .returned (.int .i64 4) ∧ wx = w') := Lib.hid (fun wx g hb => send_no b oa _ _ _ _ wx (hEa.below hb) (.inl (by omega)))
        clear hEa hEc HEN20
        go_upto_region 47 with fail
        refine wn_reg47 w20 A9 A12 A13 (some ⟨gp, 0, none⟩) c9 c12 c13 c14 b b' N k qc c win hNb hkN HCW.out HQW.out HWA HWC HSN _ _ _ _ _ _ _ _ _ _ _ _ _ _ _ _ _ _ _ _ _ _ _ _ _ _ _ _ _ _ _ _ _ _ _ _ _ _ _ _ _ _ _ _ _ _ _ _ _ _ _ _ _ _ _ _ _ _ _ _ _ _ _ _ _ _ _ _ _ _ _ _ _ _ _ _ _ _ _ _ _ _ _ _ _ _ _ _ _ _ _ _ _ _ _ _ _ _ _ _ _ _ _ _ _ _ _ _ _ _ _ _ _ _ _ _ _ _ _ _ _ _ _ _ _ _ _ _ _ _ _ _ _ _ _ _ _ _ _ _ _ _ _ _ _ _ _ _ _ _ _ _ _ _ _ _ _ _ _ _ _ _ _ _ _ _ _ _ _ _ _ _ _ _ _ _ _ _ _ _ _ _ _ _ _ _ _ _ _ _ _ _ _ _ _ _ _ _ _ _ _ _ _ _ _ _ _ _ _ _ _ _ _ _ _ _ _ _ _ _ _ _ _ _ _ _ _ _ _ _ _ _ _ _ _ _ _ _ _ _ _ _ _ _ _ _ _ _ _ _ _ _ _ _ _ _ _ _ _ _ _ _ _ _ _ _ _ _ _ _ _ _ _ _ _ _ _ _ _ _ (fun val wx hBo => ?_)
        have HBZ := Lib.hid (Blw HBW.out hBo)
        clear hBo HWA HWC HSN
        go_wp2
        go_ret
        exact ⟨rfl, HBZ.out⟩
       ·have hcd := decide_eq_false (show ¬ (1 : Int) < (c : Int) by omega)
        have kx : ¬ (1 : Int) < (c : Int) := by omega
        have HBW := kd
        obtain ⟨oa, hEa⟩ := Ends.mem HEN15.out (b := b) (S := Pr.S win key (Pr.Ms N) k 0 false) (by simp)
        obtain ⟨oc, hEc⟩ := Ends.mem HEN15.out (b := b') (S := Pr.S win key (Pr.Ms N) 0 0 false) (by simp)
        have HWA : Hid (∀ wx, Below wo2.heap.size wo2 wx → Calls Try.prog 21 #[.pointer (some ⟨b, 0, none⟩)] wx fun e w' => e = .returned (.int .i64 ((N : Int) - (k : Int))) ∧ wx = w') := Lib.hid (fun wx hb => by
         have h := waiting_any b oa _ wx (hEa.below hb)
         rwa [show (((Pr.S win key (Pr.Ms N) k 0 false).wait.length : Nat) : Int) = (N : Int) - (k : Int) from by show ((((Pr.Ms N).drop k).length : Nat) : Int) = _; rw [List.length_drop, Pr.Ms_len]; omega] at h)
        have HWC : Hid (∀ wx, Below wo2.heap.size wo2 wx → Calls Try.prog 21 #[.pointer (some ⟨b', 0, none⟩)] wx fun e w' => e = .returned (.int .i64 (N : Int)) ∧ wx = w') := Lib.hid (fun wx hb => by
         have h := waiting_any b' oc _ wx (hEc.below hb)
         rwa [show (((Pr.S win key (Pr.Ms N) 0 0 false).wait.length : Nat) : Int) = (N : Int) from by show ((((Pr.Ms N).drop 0).length : Nat) : Int) = _; rw [List.drop_zero, Pr.Ms_len]] at h)
        have HSN : Hid (∀ wx g, Below wo2.heap.size wo2 wx → Calls Try.prog 11 #[.pointer (some ⟨b, 0, none⟩), .slice (some ⟨g, 0, none⟩) 65537 65537] wx fun e w' => e = .returned (.int .i64 4) ∧ wx = w') := Lib.hid (fun wx g hb => send_no b oa _ _ _ _ wx (hEa.below hb) (.inl (by omega)))
        clear hEa hEc HEN15
        go_upto_region 47 with fail
        refine wn_reg47 wo2 A9 A12 A13 A14 c9 c12 c13 c14 b b' N k qc c win hNb hkN HCW.out HQW.out HWA HWC HSN _ _ _ _ _ _ _ _ _ _ _ _ _ _ _ _ _ _ _ _ _ _ _ _ _ _ _ _ _ _ _ _ _ _ _ _ _ _ _ _ _ _ _ _ _ _ _ _ _ _ _ _ _ _ _ _ _ _ _ _ _ _ _ _ _ _ _ _ _ _ _ _ _ _ _ _ _ _ _ _ _ _ _ _ _ _ _ _ _ _ _ _ _ _ _ _ _ _ _ _ _ _ _ _ _ _ _ _ _ _ _ _ _ _ _ _ _ _ _ _ _ _ _ _ _ _ _ _ _ _ _ _ _ _ _ _ _ _ _ _ _ _ _ _ _ _ _ _ _ _ _ _ _ _ _ _ _ _ _ _ _ _ _ _ _ _ _ _ _ _ _ _ _ _ _ _ _ _ _ _ _ _ _ _ _ _ _ _ _ _ _ _ _ _ _ _ _ _ _ _ _ _ _ _ _ _ _ _ _ _ _ _ _ _ _ _ _ _ _ _ _ _ _ _ _ _ _ _ _ _ _ _ _ _ _ _ _ _ _ _ _ _ _ _ _ _ _ _ _ _ _ _ _ _ _ _ _ _ _ _ _ _ _ _ _ _ _ _ _ _ _ _ _ _ _ _ _ _ _ _ (fun val wx hBo => ?_)
        have HBZ := Lib.hid (Blw HBW.out hBo)
        clear hBo HWA HWC HSN
        go_wp2
        go_ret
        exact ⟨rfl, HBZ.out⟩
theorem law_window (win key many ack : Int) (w : World) (hw : W.Is64 win) (hkey : 0 ≤ key ∧ key < 18446744073709551616) (hm : W.Is64 many) (ha : W.Is64 ack) :
  Calls Try.prog 8 #[.int .i64 win, .int .u64 key, .int .i64 many, .int .i64 ack] w fun e w' => e = .returned (.bool true) ∧ Below w.heap.size w w' := by
 by_cases h : win < 1 ∨ 16 < win
 ·exact law_window_bad win key many ack w h
 ·exact law_window_ok win key many ack w (by omega) (by omega) hkey hm ha
end Go.Proofs.Ytgdibcgphjmofaa
