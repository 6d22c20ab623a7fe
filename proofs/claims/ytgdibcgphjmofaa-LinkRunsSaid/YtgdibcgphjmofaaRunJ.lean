/-
 THE WALK of LinkRuns.
-/
import Derived.Test.YtgdibcgphjmofaaRunI
import Derived.Test.YtgdibcgphjmofaaLnkE1
import Derived.Deep.CutBlock
namespace Go.Proofs.Ytgdibcgphjmofaa
set_option maxHeartbeats 4000000
open Go.RowKit
open Go.Maps
set_option linter.unusedVariables false
theorem Rn.bv2 (w : World) (c d : UInt8) {x y : Value} (hx : x = .int .u8 (c.toNat : Int)) (hy : y = .int .u8 (d.toNat : Int)) : BV (w.alloc (.cells #[x, y] 5)) (.slice (some ⟨w.heap.size, 0, none⟩) 2 2) [c, d] := by
 subst hx; subst hy
 have hb : Bx (w.alloc (.cells #[.int .u8 (c.toNat : Int), .int .u8 (d.toNat : Int)] 5)) w.heap.size 5 [.int .u8 (c.toNat : Int), .int .u8 (d.toNat : Int)] := Bx.at_ rfl
 exact ⟨_, _, rfl, Nat.le_refl _, by decide, fun _ => ⟨w.heap.size, 0, rfl, hb.lt, fun j u hu => by rw [Nat.zero_add]; exact hb.cell hu⟩, fun _ => ⟨w.heap.size, 0, _, _, rfl, hb⟩⟩
theorem Rn.adds {B : Nat} {ks ks' : List Nat} {w w' : World} {ef : Nat → Nat} {Sf : Nat → K.E} (h : E2 B ks w ef Sf) (hb : Below w.heap.size w w') (hs : ∀ k ∈ ks', k ∈ ks ∨ w.heap.size ≤ k) (hl : ∀ k ∈ ks', k < w'.heap.size) : E2 B ks' w' ef Sf :=
 Ends.ext (R := []) ⟨Tc.of hb, KB.of hb⟩ h (by simp) hs hl
theorem Rn.byte (n : Nat) : IntKind.u8.wrap (n : Int) = ((UInt8.ofNat n).toNat : Int) := by rw [UInt8.toNat_ofNat', IntKind.wrap_u8]; omega
theorem rn_put {w6 : World} {B gf nu cf y : Nat} {c8 : UInt8} {PQ : List UInt8} (h : w6.ownsRow B 5 1 (.slice (some ⟨gf, 0, none⟩) nu cf) nu (W.bc (PQ.set y c8))) (hn : nu = PQ.length) (h1 : 11 ≤ nu) (h2 : nu ≤ 100) :
  ∃ l : List UInt8, BV w6 (.slice (some ⟨gf, 0, none⟩) nu cf) l ∧ 11 ≤ l.length ∧ l.length ≤ 100 := by
 have e : (PQ.set y c8).length = nu := by rw [List.length_set, hn]
 exact ⟨PQ.set y c8, BV.own (base := B) (by rw [e]; exact h), by rw [e]; exact h1, by rw [e]; exact h2⟩
/-- The block of a number. -/
def blkIn (n : Nat) : Code → Option Code
 | .block i a => if i = n then some (.block i a) else blkIn n a
 | .seq a b => match blkIn n a with
  | some c => some c
  | none => blkIn n b
 | .cond _ a b => match blkIn n a with
  | some c => some c
  | none => blkIn n b
 | .loop a => blkIn n a
 | .scope a => blkIn n a
 | _ => none
def isT (n : Nat) : Operand → Bool
 | .tmp k => k == n
 | _ => false
/-- The 'if' on a slot. -/
def cndIn (n : Nat) : Code → Option Code
 | .block _ a => cndIn n a
 | .seq a b => match cndIn n a with
  | some c => some c
  | none => cndIn n b
 | .cond x a b => if isT n x = true then some (.cond x a b) else match cndIn n a with
  | some c => some c
  | none => cndIn n b
 | .loop a => cndIn n a
 | .scope a => cndIn n a
 | _ => none
def isR (n : Nat) : Code → Bool
 | .region i _ _ => i == n
 | _ => false
/-- What begins with a region. -/
def seqIn (n : Nat) : Code → Option Code
 | .block _ a => seqIn n a
 | .seq a b => if isR n a = true then some (.seq a b) else match seqIn n a with
  | some c => some c
  | none => seqIn n b
 | .cond _ a b => match seqIn n a with
  | some c => some c
  | none => seqIn n b
 | .loop a => seqIn n a
 | .scope a => seqIn n a
 | _ => none
def Rn.R0 (win key : Int) (k : Nat) : Rn.E := ⟨Pr.win win k, key, [], 0, 0, [], false, 0⟩
theorem Rn.R0_end {w : World} {b : Nat} {win key : Int} {k : Nat} (h : Bx w b 31 [.int .i64 (Pr.win win k), .int .u64 key, .slice none 0 0, .int .i64 0, .int .i64 0, .slice none 0 0, .bool false, .int .i64 0]) : REnd w b [b] (Rn.R0 win key k) :=
 ⟨.slice none 0 0, .slice none 0 0, [], [], h, World.ownsRow_nil _ _ _ _, Vs.nil _, World.ownsRow_nil _ _ _ _, Vs.nil _, rfl⟩
theorem Rn.R0_inv {win key : Int} (hkey : 0 ≤ key ∧ key < 18446744073709551616) (k : Nat) : Rn.Inv 0 (Rn.R0 win key k) :=
 ⟨Pr.win_rng win k, hkey, ⟨Int.le_refl _, by simp [Rn.R0]⟩, ⟨by simp [Rn.R0], by simp [Rn.R0]⟩, ⟨Int.le_refl _, by simp [Rn.R0]⟩, ⟨Int.le_refl _, Int.le_refl _⟩, ⟨by simp [Rn.R0], rfl⟩⟩
set_option maxRecDepth 100000 in
theorem rn_reg17 {Q : Exit → Act → World → Prop} (w5 : World) (n nu cf gf y : Nat) (c8 : UInt8) (oc : Value) (hy : Int.tmod ((n : Int).tdiv 13) (nu : Int) = (y : Int)) (hy' : (n : Int) / 13 % (nu : Int) = (y : Int)) (hy3 : (y : Int) < (nu : Int)) (hy4 : (0 : Int) ≤ (y : Int)) (hkd : decide ((y : Int) < (nu : Int)) = true) (hnz : ((nu : Int) = 0) = False) (hc8 : IntKind.u8.wrap (n : Int) = (c8.toNat : Int)) (hc8' : (n : Int) % 256 = (c8.toNat : Int)) (hnb : n < 1073741824)
 (hcell : w5.cell? ⟨gf, y, none⟩ = some oc) (hfz : w5.frozen? ⟨gf, y, none⟩ = false) (x0_ x1_ x2_ x3_ x4_ x5_ x6_ x7_ x8_ x9_ x10_ x11_ x13_ x14_ x15_ x16_ x17_ x18_ x20_ x21_ x22_ x23_ x24_ x25_ x26_ x27_ x28_ x29_ x30_ x31_ x32_ x33_ x34_ x35_ x36_ x37_ x38_ x39_ x40_ x41_ x42_ x43_ x44_ x45_ x46_ x47_ x48_ x49_ x50_ x51_ x52_ x53_ x54_ x55_ x56_ x57_ x58_ x59_ x60_ x61_ x62_ x63_ x64_ x65_ x66_ x67_ x68_ x69_ x70_ x71_ x72_ x73_ x74_ x75_ x76_ x77_ x78_ x79_ x80_ x81_ x82_ x83_ x84_ x85_ x86_ x87_ x88_ x89_ x90_ x91_ x92_ x93_ x94_ x95_ x96_ x97_ x98_ x99_ x100_ x101_ x102_ x103_ x104_ x105_ x106_ x107_ x108_ x109_ x110_ x111_ x112_ x113_ x114_ x115_ x116_ x117_ x118_ x119_ x120_ x121_ x122_ x123_ x124_ x125_ x126_ x127_ x128_ x129_ x130_ x131_ x132_ x133_ x134_ x135_ x136_ x137_ x138_ x139_ x140_ x141_ x142_ x143_ x144_ x145_ x146_ x147_ x148_ x149_ x150_ x151_ x152_ x153_ x154_ x155_ x156_ x157_ x158_ x159_ x160_ x161_ x162_ x163_ x164_ x165_ x166_ x167_ x168_ x169_ x170_ x171_ x172_ x173_ x174_ x175_ x176_ x177_ x178_ x179_ x180_ x181_ x182_ x183_ x184_ x185_ x186_ x187_ x188_ x189_ x190_ x191_ x192_ x193_ x194_ x195_ x196_ x197_ x198_ x199_ x200_ x201_ x202_ x203_ x204_ x205_ x206_ x207_ x208_ x209_ x210_ x211_ x212_ x213_ x214_ x215_ x216_ x217_ x218_ x219_ x220_ x221_ x222_ x223_ x224_ x225_ x226_ x227_ x228_ x229_ x230_ x231_ x232_ x233_ x234_ x235_ x236_ x237_ x238_ x239_ x240_ x241_ x242_ x243_ x244_ x245_ x246_ x247_ x248_ x249_ x250_ x251_ x252_ x253_ x254_ x255_ x256_ x257_ : Value) (hQ : Q .normal ⟨#[x0_, x1_, x2_, x3_, x4_, x5_, x6_, x7_, x8_, x9_, x10_, x11_, .int .i64 (n : Int), x13_, x14_, x15_, x16_, x17_, x18_, .slice (some ⟨gf, 0, none⟩) nu cf, x20_, x21_, x22_, x23_, x24_, x25_, x26_, x27_, x28_, x29_, x30_, x31_, x32_, x33_, x34_, x35_, x36_, x37_, x38_, x39_, x40_, x41_, x42_, x43_, x44_, x45_, x46_, x47_, x48_, x49_, x50_, x51_, x52_, x53_, x54_, x55_, x56_, x57_, x58_, x59_, x60_, x61_, x62_, x63_, x64_, x65_, x66_, x67_, x68_, x69_, x70_, x71_, x72_, x73_, x74_, x75_, x76_, x77_, x78_, x79_, x80_, x81_, x82_, x83_, x84_, x85_, x86_, x87_, x88_, x89_, x90_, x91_, x92_, .slice (some ⟨gf, 0, none⟩) nu cf, .int .i64 (n : Int), .int .i64 ((n : Int) / 13), .slice (some ⟨gf, 0, none⟩) nu cf, .int .i64 (nu : Int), .int .i64 (y : Int), .int .i64 (n : Int), .int .u8 (c8.toNat : Int), .pointer (some ⟨gf, y, none⟩), x102_, x103_, x104_, x105_, x106_, x107_, x108_, x109_, x110_, x111_, x112_, x113_, x114_, x115_, x116_, x117_, x118_, x119_, x120_, x121_, x122_, x123_, x124_, x125_, x126_, x127_, x128_, x129_, x130_, x131_, x132_, x133_, x134_, x135_, x136_, x137_, x138_, x139_, x140_, x141_, x142_, x143_, x144_, x145_, x146_, x147_, x148_, x149_, x150_, x151_, x152_, x153_, x154_, x155_, x156_, x157_, x158_, x159_, x160_, x161_, x162_, x163_, x164_, x165_, x166_, x167_, x168_, x169_, x170_, x171_, x172_, x173_, x174_, x175_, x176_, x177_, x178_, x179_, x180_, x181_, x182_, x183_, x184_, x185_, x186_, x187_, x188_, x189_, x190_, x191_, x192_, x193_, x194_, x195_, x196_, x197_, x198_, x199_, x200_, x201_, x202_, x203_, x204_, x205_, x206_, x207_, x208_, x209_, x210_, x211_, x212_, x213_, x214_, x215_, x216_, x217_, x218_, x219_, x220_, x221_, x222_, x223_, x224_, x225_, x226_, x227_, x228_, x229_, x230_, x231_, x232_, x233_, x234_, x235_, x236_, x237_, x238_, x239_, x240_, x241_, x242_, x243_, x244_, x245_, x246_, x247_, x248_, x249_, x250_, x251_, x252_, x253_, x254_, x255_, x256_, x257_], []⟩ (w5.setCell ⟨gf, y, none⟩ (.int .u8 (c8.toNat : Int)))) :
  Code.wp Try.prog ((regIn 17 ((Try.f3.body).getD .skip)).getD .skip) Q ⟨#[x0_, x1_, x2_, x3_, x4_, x5_, x6_, x7_, x8_, x9_, x10_, x11_, .int .i64 (n : Int), x13_, x14_, x15_, x16_, x17_, x18_, .slice (some ⟨gf, 0, none⟩) nu cf, x20_, x21_, x22_, x23_, x24_, x25_, x26_, x27_, x28_, x29_, x30_, x31_, x32_, x33_, x34_, x35_, x36_, x37_, x38_, x39_, x40_, x41_, x42_, x43_, x44_, x45_, x46_, x47_, x48_, x49_, x50_, x51_, x52_, x53_, x54_, x55_, x56_, x57_, x58_, x59_, x60_, x61_, x62_, x63_, x64_, x65_, x66_, x67_, x68_, x69_, x70_, x71_, x72_, x73_, x74_, x75_, x76_, x77_, x78_, x79_, x80_, x81_, x82_, x83_, x84_, x85_, x86_, x87_, x88_, x89_, x90_, x91_, x92_, x93_, x94_, x95_, x96_, x97_, x98_, x99_, x100_, x101_, x102_, x103_, x104_, x105_, x106_, x107_, x108_, x109_, x110_, x111_, x112_, x113_, x114_, x115_, x116_, x117_, x118_, x119_, x120_, x121_, x122_, x123_, x124_, x125_, x126_, x127_, x128_, x129_, x130_, x131_, x132_, x133_, x134_, x135_, x136_, x137_, x138_, x139_, x140_, x141_, x142_, x143_, x144_, x145_, x146_, x147_, x148_, x149_, x150_, x151_, x152_, x153_, x154_, x155_, x156_, x157_, x158_, x159_, x160_, x161_, x162_, x163_, x164_, x165_, x166_, x167_, x168_, x169_, x170_, x171_, x172_, x173_, x174_, x175_, x176_, x177_, x178_, x179_, x180_, x181_, x182_, x183_, x184_, x185_, x186_, x187_, x188_, x189_, x190_, x191_, x192_, x193_, x194_, x195_, x196_, x197_, x198_, x199_, x200_, x201_, x202_, x203_, x204_, x205_, x206_, x207_, x208_, x209_, x210_, x211_, x212_, x213_, x214_, x215_, x216_, x217_, x218_, x219_, x220_, x221_, x222_, x223_, x224_, x225_, x226_, x227_, x228_, x229_, x230_, x231_, x232_, x233_, x234_, x235_, x236_, x237_, x238_, x239_, x240_, x241_, x242_, x243_, x244_, x245_, x246_, x247_, x248_, x249_, x250_, x251_, x252_, x253_, x254_, x255_, x256_, x257_], []⟩ w5 := by
 have HQ_ := Lib.hid hQ; clear hQ
 conv => arg 2; whnf
 go_wp2
 exact HQ_.out
set_option maxRecDepth 100000 in
theorem rn_reg15 {Q : Exit → Act → World → Prop} (wq : World) (gq np cq x nu cu : Nat) (Au : Option Addr) (PQ : List UInt8) (hx3 : (x : Int) < (np : Int)) (hx4 : (0 : Int) ≤ (x : Int)) (HCP : Hid (∀ wx, Below wq.heap.size wq wx → wx.cell? ⟨gq, x, none⟩ = some (.slice Au nu cu))) (HFW : Hid (∀ wx, Below wq.heap.size wq wx → Calls Try.prog 16 #[.slice Au nu cu, .int .i64 (nu : Int)] wx (RB_ PQ wx))) (x0_ x1_ x2_ x3_ x4_ x5_ x6_ x7_ x8_ x10_ x11_ x12_ x13_ x14_ x15_ x16_ x17_ x19_ x20_ x21_ x22_ x23_ x24_ x25_ x26_ x27_ x28_ x29_ x30_ x31_ x32_ x33_ x34_ x35_ x36_ x37_ x38_ x39_ x40_ x41_ x42_ x43_ x44_ x45_ x46_ x47_ x48_ x49_ x50_ x51_ x52_ x53_ x54_ x55_ x56_ x57_ x58_ x59_ x60_ x61_ x62_ x63_ x64_ x65_ x66_ x67_ x68_ x69_ x70_ x71_ x72_ x73_ x74_ x75_ x76_ x77_ x78_ x79_ x80_ x81_ x82_ x83_ x84_ x85_ x86_ x87_ x88_ x89_ x90_ x91_ x92_ x93_ x94_ x95_ x96_ x97_ x98_ x99_ x100_ x101_ x102_ x103_ x104_ x105_ x106_ x107_ x108_ x109_ x110_ x111_ x112_ x113_ x114_ x115_ x116_ x117_ x118_ x119_ x120_ x121_ x122_ x123_ x124_ x125_ x126_ x127_ x128_ x129_ x130_ x131_ x132_ x133_ x134_ x135_ x136_ x137_ x138_ x139_ x140_ x141_ x142_ x143_ x144_ x145_ x146_ x147_ x148_ x149_ x150_ x151_ x152_ x153_ x154_ x155_ x156_ x157_ x158_ x159_ x160_ x161_ x162_ x163_ x164_ x165_ x166_ x167_ x168_ x169_ x170_ x171_ x172_ x173_ x174_ x175_ x176_ x177_ x178_ x179_ x180_ x181_ x182_ x183_ x184_ x185_ x186_ x187_ x188_ x189_ x190_ x191_ x192_ x193_ x194_ x195_ x196_ x197_ x198_ x199_ x200_ x201_ x202_ x203_ x204_ x205_ x206_ x207_ x208_ x209_ x210_ x211_ x212_ x213_ x214_ x215_ x216_ x217_ x218_ x219_ x220_ x221_ x222_ x223_ x224_ x225_ x226_ x227_ x228_ x229_ x230_ x231_ x232_ x233_ x234_ x235_ x236_ x237_ x238_ x239_ x240_ x241_ x242_ x243_ x244_ x245_ x246_ x247_ x248_ x249_ x250_ x251_ x252_ x253_ x254_ x255_ x256_ x257_ : Value) (hQ : ∀ (val : Nat → Value) wx, Below wq.heap.size wq wx → ∀ (uq10 : Value), (SOwn wq.heap.size PQ) wx uq10 → Q .normal ⟨#[x0_, x1_, x2_, x3_, x4_, x5_, x6_, x7_, x8_, .slice (some ⟨gq, 0, none⟩) np cq, x10_, x11_, x12_, x13_, x14_, x15_, x16_, x17_, .int .i64 (x : Int), uq10, x20_, x21_, x22_, x23_, x24_, x25_, x26_, x27_, x28_, x29_, x30_, x31_, x32_, x33_, x34_, x35_, x36_, x37_, x38_, x39_, x40_, x41_, x42_, x43_, x44_, x45_, x46_, x47_, x48_, x49_, x50_, x51_, x52_, x53_, x54_, x55_, x56_, x57_, x58_, x59_, x60_, x61_, x62_, x63_, x64_, x65_, x66_, x67_, x68_, x69_, x70_, x71_, x72_, x73_, x74_, x75_, x76_, x77_, x78_, x79_, val 0, val 1, val 2, val 3, val 4, val 5, val 6, val 7, val 8, val 9, x90_, x91_, x92_, x93_, x94_, x95_, x96_, x97_, x98_, x99_, x100_, x101_, x102_, x103_, x104_, x105_, x106_, x107_, x108_, x109_, x110_, x111_, x112_, x113_, x114_, x115_, x116_, x117_, x118_, x119_, x120_, x121_, x122_, x123_, x124_, x125_, x126_, x127_, x128_, x129_, x130_, x131_, x132_, x133_, x134_, x135_, x136_, x137_, x138_, x139_, x140_, x141_, x142_, x143_, x144_, x145_, x146_, x147_, x148_, x149_, x150_, x151_, x152_, x153_, x154_, x155_, x156_, x157_, x158_, x159_, x160_, x161_, x162_, x163_, x164_, x165_, x166_, x167_, x168_, x169_, x170_, x171_, x172_, x173_, x174_, x175_, x176_, x177_, x178_, x179_, x180_, x181_, x182_, x183_, x184_, x185_, x186_, x187_, x188_, x189_, x190_, x191_, x192_, x193_, x194_, x195_, x196_, x197_, x198_, x199_, x200_, x201_, x202_, x203_, x204_, x205_, x206_, x207_, x208_, x209_, x210_, x211_, x212_, x213_, x214_, x215_, x216_, x217_, x218_, x219_, x220_, x221_, x222_, x223_, x224_, x225_, x226_, x227_, x228_, x229_, x230_, x231_, x232_, x233_, x234_, x235_, x236_, x237_, x238_, x239_, x240_, x241_, x242_, x243_, x244_, x245_, x246_, x247_, x248_, x249_, x250_, x251_, x252_, x253_, x254_, x255_, x256_, x257_], []⟩ wx) :
  Code.wp Try.prog ((regIn 15 ((Try.f3.body).getD .skip)).getD .skip) Q ⟨#[x0_, x1_, x2_, x3_, x4_, x5_, x6_, x7_, x8_, .slice (some ⟨gq, 0, none⟩) np cq, x10_, x11_, x12_, x13_, x14_, x15_, x16_, x17_, .int .i64 (x : Int), x19_, x20_, x21_, x22_, x23_, x24_, x25_, x26_, x27_, x28_, x29_, x30_, x31_, x32_, x33_, x34_, x35_, x36_, x37_, x38_, x39_, x40_, x41_, x42_, x43_, x44_, x45_, x46_, x47_, x48_, x49_, x50_, x51_, x52_, x53_, x54_, x55_, x56_, x57_, x58_, x59_, x60_, x61_, x62_, x63_, x64_, x65_, x66_, x67_, x68_, x69_, x70_, x71_, x72_, x73_, x74_, x75_, x76_, x77_, x78_, x79_, x80_, x81_, x82_, x83_, x84_, x85_, x86_, x87_, x88_, x89_, x90_, x91_, x92_, x93_, x94_, x95_, x96_, x97_, x98_, x99_, x100_, x101_, x102_, x103_, x104_, x105_, x106_, x107_, x108_, x109_, x110_, x111_, x112_, x113_, x114_, x115_, x116_, x117_, x118_, x119_, x120_, x121_, x122_, x123_, x124_, x125_, x126_, x127_, x128_, x129_, x130_, x131_, x132_, x133_, x134_, x135_, x136_, x137_, x138_, x139_, x140_, x141_, x142_, x143_, x144_, x145_, x146_, x147_, x148_, x149_, x150_, x151_, x152_, x153_, x154_, x155_, x156_, x157_, x158_, x159_, x160_, x161_, x162_, x163_, x164_, x165_, x166_, x167_, x168_, x169_, x170_, x171_, x172_, x173_, x174_, x175_, x176_, x177_, x178_, x179_, x180_, x181_, x182_, x183_, x184_, x185_, x186_, x187_, x188_, x189_, x190_, x191_, x192_, x193_, x194_, x195_, x196_, x197_, x198_, x199_, x200_, x201_, x202_, x203_, x204_, x205_, x206_, x207_, x208_, x209_, x210_, x211_, x212_, x213_, x214_, x215_, x216_, x217_, x218_, x219_, x220_, x221_, x222_, x223_, x224_, x225_, x226_, x227_, x228_, x229_, x230_, x231_, x232_, x233_, x234_, x235_, x236_, x237_, x238_, x239_, x240_, x241_, x242_, x243_, x244_, x245_, x246_, x247_, x248_, x249_, x250_, x251_, x252_, x253_, x254_, x255_, x256_, x257_], []⟩ wq := by
 have HQ_ := Lib.hid hQ; clear hQ
 conv => arg 2; whnf
 generalize hW_15 : wq.drew = W_15
 refine gen_act ?_
 intro F_ hF_
 have ev9 : F_.eval (.tmp 9) = .slice (some ⟨gq, 0, none⟩) np cq := by rw [← hF_]; rfl
 have ev18 : F_.eval (.tmp 18) = .int .i64 (x : Int) := by rw [← hF_]; rfl
 have hsz_ : ∀ d ∈ ([(80, []), (81, []), (82, [0, 1]), (83, [2]), (84, []), (85, []), (86, [4, 5]), (87, [6]), (88, [7]), (89, [3, 8]), (19, [9])] : List (Nat × List Nat)).map (·.1), d < F_.tmps.size := by rw [← hF_]; simp
 have HF_ := Lib.hid hF_; clear hF_
 refine wp_flow_tab true hW_15 11 [(80, []), (81, []), (82, [0, 1]), (83, [2]), (84, []), (85, []), (86, [4, 5]), (87, [6]), (88, [7]), (89, [3, 8]), (19, [9])] [SC (.slice (some ⟨gq, 0, none⟩) np cq), SC (.int .i64 (x : Int)), SC (.pointer (some ⟨gq, x, none⟩)), SC (.slice Au nu cu), SC (.slice (some ⟨gq, 0, none⟩) np cq), SC (.int .i64 (x : Int)), SC (.pointer (some ⟨gq, x, none⟩)), SC (.slice Au nu cu), SC (.int .i64 ((nu : Nat) : Int)), SOwn wq.heap.size PQ, SOwn wq.heap.size PQ] [false, false, false, false, false, false, false, false, false, false, false] (by kernel_rfl) (by kernel_rfl) (by kernel_rfl) (by kernel_rfl) (by kernel_rfl) hsz_ ⟨SC.mono _, SC.mono _, SC.mono _, SC.mono _, SC.mono _, SC.mono _, SC.mono _, SC.mono _, SC.mono _, SOwn.mono _ _, SOwn.mono _ _, trivial⟩ ?_ ?_
 ·intro kq hkq a wx hB hp hs
  have hBo : Below wq.heap.size wq wx := dB hW_15 hB
  have hcase : kq = 0 ∨ kq = 1 ∨ kq = 2 ∨ kq = 3 ∨ kq = 4 ∨ kq = 5 ∨ kq = 6 ∨ kq = 7 ∨ kq = 8 ∨ kq = 9 ∨ kq = 10 := by omega
  rcases hcase with rfl | rfl | rfl | rfl | rfl | rfl | rfl | rfl | rfl | rfl | rfl
  ·clear hp
   exact ⟨_, rfl, op_mv (s := SC _) rfl ((hs 9 rfl).trans ev9)⟩
  ·clear hp
   exact ⟨_, rfl, op_mv (s := SC _) rfl ((hs 18 rfl).trans ev18)⟩
  ·obtain ⟨k0, k1, -⟩ := hp
   have e0 : a.eval (.tmp 80) = .slice (some ⟨gq, 0, none⟩) np cq := k0
   simp [Act.eval] at e0
   have e1 : a.eval (.tmp 81) = .int .i64 (x : Int) := k1
   simp [Act.eval] at e1
   exact ⟨_, rfl, Does.val (by simp [execOp, Act.eval, e0, e1, go_sem, hx3, hx4]) rfl⟩
  ·obtain ⟨k0, -⟩ := hp
   have e0 : a.eval (.tmp 82) = .pointer (some ⟨gq, x, none⟩) := k0
   simp [Act.eval] at e0
   exact ⟨_, rfl, Does.val (by simp [execOp, Act.eval, e0, go_sem, HCP.out wx hBo]) rfl⟩
  ·clear hp
   exact ⟨_, rfl, op_mv (s := SC _) rfl ((hs 9 rfl).trans ev9)⟩
  ·clear hp
   exact ⟨_, rfl, op_mv (s := SC _) rfl ((hs 18 rfl).trans ev18)⟩
  ·obtain ⟨k0, k1, -⟩ := hp
   have e0 : a.eval (.tmp 84) = .slice (some ⟨gq, 0, none⟩) np cq := k0
   simp [Act.eval] at e0
   have e1 : a.eval (.tmp 85) = .int .i64 (x : Int) := k1
   simp [Act.eval] at e1
   exact ⟨_, rfl, Does.val (by simp [execOp, Act.eval, e0, e1, go_sem, hx3, hx4]) rfl⟩
  ·obtain ⟨k0, -⟩ := hp
   have e0 : a.eval (.tmp 86) = .pointer (some ⟨gq, x, none⟩) := k0
   simp [Act.eval] at e0
   exact ⟨_, rfl, Does.val (by simp [execOp, Act.eval, e0, go_sem, HCP.out wx hBo]) rfl⟩
  ·obtain ⟨k0, -⟩ := hp
   have e0 : a.eval (.tmp 87) = .slice Au nu cu := k0
   simp [Act.eval] at e0
   exact ⟨_, rfl, Does.val (by simp [execOp, Act.eval, e0, go_sem]) rfl⟩
  ·obtain ⟨k0, k1, -⟩ := hp
   exact ⟨_, rfl, Does.ro (f := 16) (call2 rfl (fun _ => by simp [go_sem]) k0 k1) (HFW.out wx hBo) hBo.size⟩
  ·obtain ⟨k0, -⟩ := hp
   exact ⟨_, rfl, op_as rfl k0⟩
 ·intro val wx hB hsp hdis
  have hBo : Below wq.heap.size wq wx := dB hW_15 hB
  have h10 : (SOwn wq.heap.size PQ) wx (val 10) := hsp 10 (by omega)
  generalize e10 : val 10 = uq10 at h10
  rw [← HF_.out]
  change wpList _ _ _ [] _ _
  simp only [puts_consT, puts_nilm, vals, List.map_cons, List.map_nil, Nat.zero_add, Nat.reduceAdd, e10, List.setIfInBounds_toArray, List.set_cons_succ, List.set_cons_zero]
  clear hsp hdis HF_ hsz_ hB hW_15 e10 ev9 ev18
  go_wp2
  exact HQ_.out val wx hBo _ h10
set_option maxRecDepth 100000 in
theorem rn_reg45 {Q : Exit → Act → World → Prop} (wo : World) (ge gm j ns cs wl : Nat) (ef mf : Nat → Nat) (As : Option Addr) (ak fg : Int) (hj3 : (j : Int) < 2) (hj4 : (0 : Int) ≤ (j : Int)) (hsub3 : IntKind.i64.wrap ((ns : Int) - ak) = (wl : Int)) (HCE : Hid (∀ wx, Below wo.heap.size wo wx → wx.cell? ⟨ge, j, none⟩ = some (.pointer (some ⟨ef j, 0, none⟩)))) (HCM : Hid (∀ wx, Below wo.heap.size wo wx → wx.cell? ⟨gm, j, none⟩ = some (.pointer (some ⟨mf j, 0, none⟩)))) (HF2 : Hid (∀ wx, Below wo.heap.size wo wx → wx.cell? ⟨mf j, 2, none⟩ = some (.slice As ns cs))) (HF3 : Hid (∀ wx, Below wo.heap.size wo wx → wx.cell? ⟨mf j, 3, none⟩ = some (.int .i64 ak))) (HF7 : Hid (∀ wx, Below wo.heap.size wo wx → wx.cell? ⟨mf j, 7, none⟩ = some (.int .i64 fg))) (HWT : Hid (∀ wx, Below wo.heap.size wo wx → Calls Try.prog 21 #[.pointer (some ⟨ef j, 0, none⟩)] wx fun e w' => e = .returned (.int .i64 (wl : Int)) ∧ wx = w')) (HFG : Hid (∀ wx, Below wo.heap.size wo wx → Calls Try.prog 22 #[.pointer (some ⟨ef j, 0, none⟩)] wx fun e w' => e = .returned (.int .i64 fg) ∧ wx = w')) (x0_ x1_ x2_ x3_ x4_ x5_ x6_ x9_ x10_ x11_ x12_ x13_ x14_ x15_ x16_ x17_ x18_ x19_ x20_ x21_ x22_ x23_ x25_ x26_ x27_ x28_ x29_ x30_ x31_ x32_ x33_ x34_ x35_ x36_ x37_ x38_ x39_ x40_ x41_ x42_ x43_ x44_ x45_ x46_ x47_ x48_ x49_ x50_ x51_ x52_ x53_ x54_ x55_ x56_ x57_ x58_ x59_ x60_ x61_ x62_ x63_ x64_ x65_ x66_ x67_ x68_ x69_ x70_ x71_ x72_ x73_ x74_ x75_ x76_ x77_ x78_ x79_ x80_ x81_ x82_ x83_ x84_ x85_ x86_ x87_ x88_ x89_ x90_ x91_ x92_ x93_ x94_ x95_ x96_ x97_ x98_ x99_ x100_ x101_ x102_ x103_ x104_ x105_ x106_ x107_ x108_ x109_ x110_ x111_ x112_ x113_ x114_ x115_ x116_ x117_ x118_ x119_ x120_ x121_ x122_ x123_ x124_ x125_ x126_ x127_ x128_ x129_ x130_ x131_ x132_ x133_ x134_ x135_ x136_ x137_ x138_ x139_ x140_ x141_ x142_ x143_ x144_ x145_ x146_ x147_ x148_ x149_ x150_ x151_ x152_ x153_ x154_ x155_ x156_ x157_ x158_ x159_ x160_ x161_ x162_ x163_ x164_ x165_ x166_ x167_ x168_ x169_ x170_ x171_ x172_ x173_ x174_ x175_ x176_ x177_ x178_ x179_ x180_ x181_ x182_ x183_ x184_ x185_ x186_ x187_ x188_ x189_ x190_ x191_ x192_ x193_ x194_ x195_ x196_ x197_ x198_ x199_ x200_ x201_ x202_ x203_ x204_ x205_ x206_ x207_ x208_ x209_ x210_ x211_ x212_ x213_ x214_ x215_ x216_ x217_ x218_ x219_ x220_ x221_ x222_ x223_ x224_ x225_ x226_ x227_ x228_ x229_ x230_ x231_ x232_ x233_ x234_ x235_ x236_ x237_ x238_ x239_ x240_ x241_ x242_ x243_ x244_ x245_ x246_ x247_ x248_ x249_ x250_ x251_ x252_ x253_ x254_ x255_ x256_ x257_ : Value) (hQ : ∀ (val : Nat → Value) wx, Below wo.heap.size wo wx → Q .normal ⟨#[x0_, x1_, x2_, x3_, x4_, x5_, x6_, .slice (some ⟨ge, 0, none⟩) 2 2, .slice (some ⟨gm, 0, none⟩) 2 2, x9_, x10_, x11_, x12_, x13_, x14_, x15_, x16_, x17_, x18_, x19_, x20_, x21_, x22_, x23_, .int .i64 (j : Int), x25_, x26_, x27_, x28_, x29_, x30_, x31_, x32_, x33_, x34_, x35_, x36_, x37_, x38_, x39_, x40_, x41_, x42_, x43_, x44_, x45_, x46_, x47_, x48_, x49_, x50_, x51_, x52_, x53_, x54_, x55_, x56_, x57_, x58_, x59_, x60_, x61_, x62_, x63_, x64_, x65_, x66_, x67_, x68_, x69_, x70_, x71_, x72_, x73_, x74_, x75_, x76_, x77_, x78_, x79_, x80_, x81_, x82_, x83_, x84_, x85_, x86_, x87_, x88_, x89_, x90_, x91_, x92_, x93_, x94_, x95_, x96_, x97_, x98_, x99_, x100_, x101_, x102_, x103_, x104_, x105_, x106_, x107_, x108_, x109_, x110_, x111_, x112_, x113_, x114_, x115_, x116_, x117_, x118_, x119_, x120_, x121_, x122_, x123_, x124_, x125_, x126_, x127_, x128_, x129_, x130_, x131_, x132_, x133_, x134_, x135_, x136_, x137_, x138_, x139_, x140_, x141_, x142_, x143_, x144_, x145_, x146_, x147_, x148_, x149_, x150_, x151_, x152_, x153_, x154_, x155_, x156_, x157_, x158_, x159_, x160_, x161_, x162_, x163_, x164_, x165_, x166_, x167_, x168_, x169_, x170_, x171_, x172_, x173_, x174_, x175_, x176_, x177_, x178_, x179_, x180_, x181_, x182_, x183_, x184_, x185_, x186_, x187_, x188_, x189_, x190_, x191_, x192_, x193_, x194_, x195_, x196_, x197_, x198_, x199_, x200_, x201_, x202_, x203_, x204_, x205_, x206_, x207_, x208_, x209_, x210_, x211_, x212_, x213_, x214_, x215_, x216_, x217_, x218_, x219_, val 0, val 1, val 2, val 3, val 4, val 5, val 6, val 7, val 8, val 9, val 10, val 11, val 12, val 13, val 14, val 15, val 16, val 17, val 18, val 19, val 20, val 21, val 22, val 23, val 24, val 25, val 26, val 27, val 28, val 29, val 30, val 31, val 32, val 33, val 34, val 35, .bool false, x257_], []⟩ wx) :
  Code.wp Try.prog ((regIn 45 ((Try.f3.body).getD .skip)).getD .skip) Q ⟨#[x0_, x1_, x2_, x3_, x4_, x5_, x6_, .slice (some ⟨ge, 0, none⟩) 2 2, .slice (some ⟨gm, 0, none⟩) 2 2, x9_, x10_, x11_, x12_, x13_, x14_, x15_, x16_, x17_, x18_, x19_, x20_, x21_, x22_, x23_, .int .i64 (j : Int), x25_, x26_, x27_, x28_, x29_, x30_, x31_, x32_, x33_, x34_, x35_, x36_, x37_, x38_, x39_, x40_, x41_, x42_, x43_, x44_, x45_, x46_, x47_, x48_, x49_, x50_, x51_, x52_, x53_, x54_, x55_, x56_, x57_, x58_, x59_, x60_, x61_, x62_, x63_, x64_, x65_, x66_, x67_, x68_, x69_, x70_, x71_, x72_, x73_, x74_, x75_, x76_, x77_, x78_, x79_, x80_, x81_, x82_, x83_, x84_, x85_, x86_, x87_, x88_, x89_, x90_, x91_, x92_, x93_, x94_, x95_, x96_, x97_, x98_, x99_, x100_, x101_, x102_, x103_, x104_, x105_, x106_, x107_, x108_, x109_, x110_, x111_, x112_, x113_, x114_, x115_, x116_, x117_, x118_, x119_, x120_, x121_, x122_, x123_, x124_, x125_, x126_, x127_, x128_, x129_, x130_, x131_, x132_, x133_, x134_, x135_, x136_, x137_, x138_, x139_, x140_, x141_, x142_, x143_, x144_, x145_, x146_, x147_, x148_, x149_, x150_, x151_, x152_, x153_, x154_, x155_, x156_, x157_, x158_, x159_, x160_, x161_, x162_, x163_, x164_, x165_, x166_, x167_, x168_, x169_, x170_, x171_, x172_, x173_, x174_, x175_, x176_, x177_, x178_, x179_, x180_, x181_, x182_, x183_, x184_, x185_, x186_, x187_, x188_, x189_, x190_, x191_, x192_, x193_, x194_, x195_, x196_, x197_, x198_, x199_, x200_, x201_, x202_, x203_, x204_, x205_, x206_, x207_, x208_, x209_, x210_, x211_, x212_, x213_, x214_, x215_, x216_, x217_, x218_, x219_, x220_, x221_, x222_, x223_, x224_, x225_, x226_, x227_, x228_, x229_, x230_, x231_, x232_, x233_, x234_, x235_, x236_, x237_, x238_, x239_, x240_, x241_, x242_, x243_, x244_, x245_, x246_, x247_, x248_, x249_, x250_, x251_, x252_, x253_, x254_, x255_, x256_, x257_], []⟩ wo := by
 have HQ_ := Lib.hid hQ; clear hQ
 conv => arg 2; whnf
 generalize hW_45 : wo.drew = W_45
 refine gen_act ?_
 intro F_ hF_
 have ev7 : F_.eval (.tmp 7) = .slice (some ⟨ge, 0, none⟩) 2 2 := by rw [← hF_]; rfl
 have ev8 : F_.eval (.tmp 8) = .slice (some ⟨gm, 0, none⟩) 2 2 := by rw [← hF_]; rfl
 have ev24 : F_.eval (.tmp 24) = .int .i64 (j : Int) := by rw [← hF_]; rfl
 have hsz_ : ∀ d ∈ ([(220, []), (221, []), (222, [0, 1]), (223, [2]), (224, [3]), (225, []), (226, []), (227, [5, 6]), (228, [7]), (229, [8]), (230, [9]), (231, [10]), (232, [11]), (233, []), (234, []), (235, [13, 14]), (236, [15]), (237, [16]), (238, [17]), (239, [18]), (240, [12, 19]), (241, [4, 20]), (242, [21]), (243, [22]), (244, [22]), (245, [23, 24, 22]), (246, [25, 22]), (247, [26, 22]), (248, [22]), (249, [22]), (250, [28, 29, 22]), (251, [30, 22]), (252, [31, 22]), (253, [32, 22]), (254, [33, 22]), (255, [27, 34, 22]), (256, [22, 35])] : List (Nat × List Nat)).map (·.1), d < F_.tmps.size := by rw [← hF_]; simp
 have HF_ := Lib.hid hF_; clear hF_
 refine wp_flow_tabG true hW_45 37 [(220, []), (221, []), (222, [0, 1]), (223, [2]), (224, [3]), (225, []), (226, []), (227, [5, 6]), (228, [7]), (229, [8]), (230, [9]), (231, [10]), (232, [11]), (233, []), (234, []), (235, [13, 14]), (236, [15]), (237, [16]), (238, [17]), (239, [18]), (240, [12, 19]), (241, [4, 20]), (242, [21]), (243, [22]), (244, [22]), (245, [23, 24, 22]), (246, [25, 22]), (247, [26, 22]), (248, [22]), (249, [22]), (250, [28, 29, 22]), (251, [30, 22]), (252, [31, 22]), (253, [32, 22]), (254, [33, 22]), (255, [27, 34, 22]), (256, [22, 35])] [SC (.slice (some ⟨ge, 0, none⟩) 2 2), SC (.int .i64 (j : Int)), SC (.pointer (some ⟨ge, j, none⟩)), SC (.pointer (some ⟨ef j, 0, none⟩)), SC (.int .i64 (wl : Int)), SC (.slice (some ⟨gm, 0, none⟩) 2 2), SC (.int .i64 (j : Int)), SC (.pointer (some ⟨gm, j, none⟩)), SC (.pointer (some ⟨mf j, 0, none⟩)), SC (.pointer (some ⟨mf j, 0, none⟩)), SC (.pointer (some ⟨mf j, 2, none⟩)), SC (.slice As ns cs), SC (.int .i64 ((ns : Nat) : Int)), SC (.slice (some ⟨gm, 0, none⟩) 2 2), SC (.int .i64 (j : Int)), SC (.pointer (some ⟨gm, j, none⟩)), SC (.pointer (some ⟨mf j, 0, none⟩)), SC (.pointer (some ⟨mf j, 0, none⟩)), SC (.pointer (some ⟨mf j, 3, none⟩)), SC (.int .i64 ak), SC (.int .i64 (wl : Int)), SC (.bool false), SC (.bool false), SC (.slice (some ⟨ge, 0, none⟩) 2 2), SC (.int .i64 (j : Int)), SC (.pointer (some ⟨ge, j, none⟩)), SC (.pointer (some ⟨ef j, 0, none⟩)), SC (.int .i64 fg), SC (.slice (some ⟨gm, 0, none⟩) 2 2), SC (.int .i64 (j : Int)), SC (.pointer (some ⟨gm, j, none⟩)), SC (.pointer (some ⟨mf j, 0, none⟩)), SC (.pointer (some ⟨mf j, 0, none⟩)), SC (.pointer (some ⟨mf j, 7, none⟩)), SC (.int .i64 fg), SC (.bool false), SC (.bool false)] [false, false, false, false, false, false, false, false, false, false, false, false, false, false, false, false, false, false, false, false, false, false, false, false, false, false, false, false, false, false, false, false, false, false, false, false, false] (by kernel_rfl) (by kernel_rfl) (by kernel_rfl) (by kernel_rfl) (by kernel_rfl) hsz_ ⟨SC.mono _, SC.mono _, SC.mono _, SC.mono _, SC.mono _, SC.mono _, SC.mono _, SC.mono _, SC.mono _, SC.mono _, SC.mono _, SC.mono _, SC.mono _, SC.mono _, SC.mono _, SC.mono _, SC.mono _, SC.mono _, SC.mono _, SC.mono _, SC.mono _, SC.mono _, SC.mono _, SC.mono _, SC.mono _, SC.mono _, SC.mono _, SC.mono _, SC.mono _, SC.mono _, SC.mono _, SC.mono _, SC.mono _, SC.mono _, SC.mono _, SC.mono _, SC.mono _, trivial⟩ ?_ ?_
 ·intro kq hkq a wx hB hp hs
  have hBo : Below wo.heap.size wo wx := dB hW_45 hB
  have hcase : kq = 0 ∨ kq = 1 ∨ kq = 2 ∨ kq = 3 ∨ kq = 4 ∨ kq = 5 ∨ kq = 6 ∨ kq = 7 ∨ kq = 8 ∨ kq = 9 ∨ kq = 10 ∨ kq = 11 ∨ kq = 12 ∨ kq = 13 ∨ kq = 14 ∨ kq = 15 ∨ kq = 16 ∨ kq = 17 ∨ kq = 18 ∨ kq = 19 ∨ kq = 20 ∨ kq = 21 ∨ kq = 22 ∨ kq = 23 ∨ kq = 24 ∨ kq = 25 ∨ kq = 26 ∨ kq = 27 ∨ kq = 28 ∨ kq = 29 ∨ kq = 30 ∨ kq = 31 ∨ kq = 32 ∨ kq = 33 ∨ kq = 34 ∨ kq = 35 ∨ kq = 36 := by omega
  rcases hcase with rfl | rfl | rfl | rfl | rfl | rfl | rfl | rfl | rfl | rfl | rfl | rfl | rfl | rfl | rfl | rfl | rfl | rfl | rfl | rfl | rfl | rfl | rfl | rfl | rfl | rfl | rfl | rfl | rfl | rfl | rfl | rfl | rfl | rfl | rfl | rfl | rfl
  ·clear hp
   exact ⟨_, rfl, .inl ⟨wanted_none rfl, op_mv (s := SC _) rfl ((hs 7 rfl).trans ev7)⟩⟩
  ·clear hp
   exact ⟨_, rfl, .inl ⟨wanted_none rfl, op_mv (s := SC _) rfl ((hs 24 rfl).trans ev24)⟩⟩
  ·obtain ⟨k0, k1, -⟩ := hp
   have e0 : a.eval (.tmp 220) = .slice (some ⟨ge, 0, none⟩) 2 2 := k0
   simp [Act.eval] at e0
   have e1 : a.eval (.tmp 221) = .int .i64 (j : Int) := k1
   simp [Act.eval] at e1
   exact ⟨_, rfl, .inl ⟨wanted_none rfl, Does.val (by simp [execOp, Act.eval, e0, e1, go_sem, hj3, hj4]) rfl⟩⟩
  ·obtain ⟨k0, -⟩ := hp
   have e0 : a.eval (.tmp 222) = .pointer (some ⟨ge, j, none⟩) := k0
   simp [Act.eval] at e0
   exact ⟨_, rfl, .inl ⟨wanted_none rfl, Does.val (by simp [execOp, Act.eval, e0, go_sem, HCE.out wx hBo]) rfl⟩⟩
  ·obtain ⟨k0, -⟩ := hp
   exact ⟨_, rfl, .inl ⟨wanted_none rfl, Does.rv (f := 21) (call1 rfl (fun _ => by simp [go_sem]) k0) (HWT.out wx hBo)⟩⟩
  ·clear hp
   exact ⟨_, rfl, .inl ⟨wanted_none rfl, op_mv (s := SC _) rfl ((hs 8 rfl).trans ev8)⟩⟩
  ·clear hp
   exact ⟨_, rfl, .inl ⟨wanted_none rfl, op_mv (s := SC _) rfl ((hs 24 rfl).trans ev24)⟩⟩
  ·obtain ⟨k0, k1, -⟩ := hp
   have e0 : a.eval (.tmp 225) = .slice (some ⟨gm, 0, none⟩) 2 2 := k0
   simp [Act.eval] at e0
   have e1 : a.eval (.tmp 226) = .int .i64 (j : Int) := k1
   simp [Act.eval] at e1
   exact ⟨_, rfl, .inl ⟨wanted_none rfl, Does.val (by simp [execOp, Act.eval, e0, e1, go_sem, hj3, hj4]) rfl⟩⟩
  ·obtain ⟨k0, -⟩ := hp
   have e0 : a.eval (.tmp 227) = .pointer (some ⟨gm, j, none⟩) := k0
   simp [Act.eval] at e0
   exact ⟨_, rfl, .inl ⟨wanted_none rfl, Does.val (by simp [execOp, Act.eval, e0, go_sem, HCM.out wx hBo]) rfl⟩⟩
  ·obtain ⟨k0, -⟩ := hp
   exact ⟨_, rfl, .inl ⟨wanted_none rfl, op_nil rfl k0⟩⟩
  ·obtain ⟨k0, -⟩ := hp
   exact ⟨_, rfl, .inl ⟨wanted_none rfl, fa_sherdref37_End_2 rfl k0⟩⟩
  ·obtain ⟨k0, -⟩ := hp
   have e0 : a.eval (.tmp 230) = .pointer (some ⟨mf j, 2, none⟩) := k0
   simp [Act.eval] at e0
   exact ⟨_, rfl, .inl ⟨wanted_none rfl, Does.val (by simp [execOp, Act.eval, e0, go_sem, HF2.out wx hBo]) rfl⟩⟩
  ·obtain ⟨k0, -⟩ := hp
   have e0 : a.eval (.tmp 231) = .slice As ns cs := k0
   simp [Act.eval] at e0
   exact ⟨_, rfl, .inl ⟨wanted_none rfl, Does.val (by simp [execOp, Act.eval, e0, go_sem]) rfl⟩⟩
  ·clear hp
   exact ⟨_, rfl, .inl ⟨wanted_none rfl, op_mv (s := SC _) rfl ((hs 8 rfl).trans ev8)⟩⟩
  ·clear hp
   exact ⟨_, rfl, .inl ⟨wanted_none rfl, op_mv (s := SC _) rfl ((hs 24 rfl).trans ev24)⟩⟩
  ·obtain ⟨k0, k1, -⟩ := hp
   have e0 : a.eval (.tmp 233) = .slice (some ⟨gm, 0, none⟩) 2 2 := k0
   simp [Act.eval] at e0
   have e1 : a.eval (.tmp 234) = .int .i64 (j : Int) := k1
   simp [Act.eval] at e1
   exact ⟨_, rfl, .inl ⟨wanted_none rfl, Does.val (by simp [execOp, Act.eval, e0, e1, go_sem, hj3, hj4]) rfl⟩⟩
  ·obtain ⟨k0, -⟩ := hp
   have e0 : a.eval (.tmp 235) = .pointer (some ⟨gm, j, none⟩) := k0
   simp [Act.eval] at e0
   exact ⟨_, rfl, .inl ⟨wanted_none rfl, Does.val (by simp [execOp, Act.eval, e0, go_sem, HCM.out wx hBo]) rfl⟩⟩
  ·obtain ⟨k0, -⟩ := hp
   exact ⟨_, rfl, .inl ⟨wanted_none rfl, op_nil rfl k0⟩⟩
  ·obtain ⟨k0, -⟩ := hp
   exact ⟨_, rfl, .inl ⟨wanted_none rfl, fa_sherdref37_End_3 rfl k0⟩⟩
  ·obtain ⟨k0, -⟩ := hp
   have e0 : a.eval (.tmp 238) = .pointer (some ⟨mf j, 3, none⟩) := k0
   simp [Act.eval] at e0
   exact ⟨_, rfl, .inl ⟨wanted_none rfl, Does.val (by simp [execOp, Act.eval, e0, go_sem, HF3.out wx hBo]) rfl⟩⟩
  ·obtain ⟨k0, k1, -⟩ := hp
   have e0 : a.eval (.tmp 232) = .int .i64 ((ns : Nat) : Int) := k0
   simp [Act.eval] at e0
   have e1 : a.eval (.tmp 239) = .int .i64 ak := k1
   simp [Act.eval] at e1
   exact ⟨_, rfl, .inl ⟨wanted_none rfl, Does.val (by simp [execOp, Act.eval, e0, e1, go_sem, hsub3]) rfl⟩⟩
  ·obtain ⟨k0, k1, -⟩ := hp
   have e0 : a.eval (.tmp 224) = .int .i64 (wl : Int) := k0
   simp [Act.eval] at e0
   have e1 : a.eval (.tmp 240) = .int .i64 (wl : Int) := k1
   simp [Act.eval] at e1
   exact ⟨_, rfl, .inl ⟨wanted_none rfl, Does.val (by simp [execOp, Act.eval, e0, e1, go_sem]) rfl⟩⟩
  ·obtain ⟨k0, -⟩ := hp
   exact ⟨_, rfl, .inl ⟨wanted_none rfl, op_mv (s := SC _) rfl k0⟩⟩
  ·obtain ⟨k0, -⟩ := hp
   have hgd : a.eval (.tmp 242) = .bool false := k0
   exact ⟨_, rfl, .inl ⟨(wanted_of rfl rfl hgd).trans rfl, op_mv (s := SC _) rfl ((hs 7 rfl).trans ev7)⟩⟩
  ·obtain ⟨k0, -⟩ := hp
   have hgd : a.eval (.tmp 242) = .bool false := k0
   exact ⟨_, rfl, .inl ⟨(wanted_of rfl rfl hgd).trans rfl, op_mv (s := SC _) rfl ((hs 24 rfl).trans ev24)⟩⟩
  ·obtain ⟨k0, k1, k2, -⟩ := hp
   have hgd : a.eval (.tmp 242) = .bool false := k2
   have e0 : a.eval (.tmp 243) = .slice (some ⟨ge, 0, none⟩) 2 2 := k0
   simp [Act.eval] at e0
   have e1 : a.eval (.tmp 244) = .int .i64 (j : Int) := k1
   simp [Act.eval] at e1
   exact ⟨_, rfl, .inl ⟨(wanted_of rfl rfl hgd).trans rfl, Does.val (by simp [execOp, Act.eval, e0, e1, go_sem, hj3, hj4]) rfl⟩⟩
  ·obtain ⟨k0, k1, -⟩ := hp
   have hgd : a.eval (.tmp 242) = .bool false := k1
   have e0 : a.eval (.tmp 245) = .pointer (some ⟨ge, j, none⟩) := k0
   simp [Act.eval] at e0
   exact ⟨_, rfl, .inl ⟨(wanted_of rfl rfl hgd).trans rfl, Does.val (by simp [execOp, Act.eval, e0, go_sem, HCE.out wx hBo]) rfl⟩⟩
  ·obtain ⟨k0, k1, -⟩ := hp
   have hgd : a.eval (.tmp 242) = .bool false := k1
   exact ⟨_, rfl, .inl ⟨(wanted_of rfl rfl hgd).trans rfl, Does.rv (f := 22) (call1 rfl (fun _ => by simp [go_sem]) k0) (HFG.out wx hBo)⟩⟩
  ·obtain ⟨k0, -⟩ := hp
   have hgd : a.eval (.tmp 242) = .bool false := k0
   exact ⟨_, rfl, .inl ⟨(wanted_of rfl rfl hgd).trans rfl, op_mv (s := SC _) rfl ((hs 8 rfl).trans ev8)⟩⟩
  ·obtain ⟨k0, -⟩ := hp
   have hgd : a.eval (.tmp 242) = .bool false := k0
   exact ⟨_, rfl, .inl ⟨(wanted_of rfl rfl hgd).trans rfl, op_mv (s := SC _) rfl ((hs 24 rfl).trans ev24)⟩⟩
  ·obtain ⟨k0, k1, k2, -⟩ := hp
   have hgd : a.eval (.tmp 242) = .bool false := k2
   have e0 : a.eval (.tmp 248) = .slice (some ⟨gm, 0, none⟩) 2 2 := k0
   simp [Act.eval] at e0
   have e1 : a.eval (.tmp 249) = .int .i64 (j : Int) := k1
   simp [Act.eval] at e1
   exact ⟨_, rfl, .inl ⟨(wanted_of rfl rfl hgd).trans rfl, Does.val (by simp [execOp, Act.eval, e0, e1, go_sem, hj3, hj4]) rfl⟩⟩
  ·obtain ⟨k0, k1, -⟩ := hp
   have hgd : a.eval (.tmp 242) = .bool false := k1
   have e0 : a.eval (.tmp 250) = .pointer (some ⟨gm, j, none⟩) := k0
   simp [Act.eval] at e0
   exact ⟨_, rfl, .inl ⟨(wanted_of rfl rfl hgd).trans rfl, Does.val (by simp [execOp, Act.eval, e0, go_sem, HCM.out wx hBo]) rfl⟩⟩
  ·obtain ⟨k0, k1, -⟩ := hp
   have hgd : a.eval (.tmp 242) = .bool false := k1
   exact ⟨_, rfl, .inl ⟨(wanted_of rfl rfl hgd).trans rfl, op_nil rfl k0⟩⟩
  ·obtain ⟨k0, k1, -⟩ := hp
   have hgd : a.eval (.tmp 242) = .bool false := k1
   exact ⟨_, rfl, .inl ⟨(wanted_of rfl rfl hgd).trans rfl, fa_sherdref37_End_7 rfl k0⟩⟩
  ·obtain ⟨k0, k1, -⟩ := hp
   have hgd : a.eval (.tmp 242) = .bool false := k1
   have e0 : a.eval (.tmp 253) = .pointer (some ⟨mf j, 7, none⟩) := k0
   simp [Act.eval] at e0
   exact ⟨_, rfl, .inl ⟨(wanted_of rfl rfl hgd).trans rfl, Does.val (by simp [execOp, Act.eval, e0, go_sem, HF7.out wx hBo]) rfl⟩⟩
  ·obtain ⟨k0, k1, k2, -⟩ := hp
   have hgd : a.eval (.tmp 242) = .bool false := k2
   have e0 : a.eval (.tmp 247) = .int .i64 fg := k0
   simp [Act.eval] at e0
   have e1 : a.eval (.tmp 254) = .int .i64 fg := k1
   simp [Act.eval] at e1
   exact ⟨_, rfl, .inl ⟨(wanted_of rfl rfl hgd).trans rfl, Does.val (by simp [execOp, Act.eval, e0, e1, go_sem]) rfl⟩⟩
  ·obtain ⟨k0, k1, -⟩ := hp
   have e0 : a.eval (.tmp 242) = .bool false := k0
   simp [Act.eval] at e0
   have e1 : a.eval (.tmp 255) = .bool false := k1
   simp [Act.eval] at e1
   exact ⟨_, rfl, .inl ⟨wanted_none rfl, Does.val (by simp [execOp, Act.eval, e0, e1, go_sem]) rfl⟩⟩
 ·intro val wx hB hsp hdis
  have hBo : Below wo.heap.size wo wx := dB hW_45 hB
  have e36 : val 36 = .bool false := hsp 36 (by omega)
  rw [← HF_.out]
  change wpList _ _ _ [] _ _
  simp only [puts_consT, puts_nilm, vals, List.map_cons, List.map_nil, Nat.zero_add, Nat.reduceAdd, e36, List.setIfInBounds_toArray, List.set_cons_succ, List.set_cons_zero]
  clear hsp hdis HF_ hsz_ hB hW_45 e36 ev7 ev8 ev24
  go_wp2
  exact HQ_.out val wx hBo
set_option maxRecDepth 100000 in
theorem rn_if92 {K_ : Act → World → Prop} {Q_ : Exit → Act → World → Prop} (w5 wq : World) (n nu cf gf r13 : Nat) (PQ : List UInt8) (hr13 : Int.tmod (n : Int) 13 = (r13 : Int)) (hr13' : (n : Int) % 13 = (r13 : Int)) (hnb : n < 1073741824) (hp1 : 11 ≤ nu) (hp2 : nu ≤ 100) (HNU : Hid (nu = PQ.length)) (HO5 : Hid (w5.ownsRow wq.heap.size 5 1 (.slice (some ⟨gf, 0, none⟩) nu cf) nu (W.bc PQ))) (HB5 : Hid (Below wq.heap.size wq w5)) (hgf : wq.heap.size ≤ gf)
  (x0_ x1_ x2_ x3_ x4_ x5_ x6_ x7_ x8_ x9_ x10_ x11_ x13_ x14_ x15_ x16_ x17_ x18_ x20_ x21_ x22_ x23_ x24_ x25_ x26_ x27_ x28_ x29_ x30_ x31_ x32_ x33_ x34_ x35_ x36_ x37_ x38_ x39_ x40_ x41_ x42_ x43_ x44_ x45_ x46_ x47_ x48_ x49_ x50_ x51_ x52_ x53_ x54_ x55_ x56_ x57_ x58_ x59_ x60_ x61_ x62_ x63_ x64_ x65_ x66_ x67_ x68_ x69_ x70_ x71_ x72_ x73_ x74_ x75_ x76_ x77_ x78_ x79_ x80_ x81_ x82_ x83_ x84_ x85_ x86_ x87_ x88_ x89_ x90_ x91_ x93_ x94_ x95_ x96_ x97_ x98_ x99_ x100_ x101_ x102_ x103_ x104_ x105_ x106_ x107_ x108_ x109_ x110_ x111_ x112_ x113_ x114_ x115_ x116_ x117_ x118_ x119_ x120_ x121_ x122_ x123_ x124_ x125_ x126_ x127_ x128_ x129_ x130_ x131_ x132_ x133_ x134_ x135_ x136_ x137_ x138_ x139_ x140_ x141_ x142_ x143_ x144_ x145_ x146_ x147_ x148_ x149_ x150_ x151_ x152_ x153_ x154_ x155_ x156_ x157_ x158_ x159_ x160_ x161_ x162_ x163_ x164_ x165_ x166_ x167_ x168_ x169_ x170_ x171_ x172_ x173_ x174_ x175_ x176_ x177_ x178_ x179_ x180_ x181_ x182_ x183_ x184_ x185_ x186_ x187_ x188_ x189_ x190_ x191_ x192_ x193_ x194_ x195_ x196_ x197_ x198_ x199_ x200_ x201_ x202_ x203_ x204_ x205_ x206_ x207_ x208_ x209_ x210_ x211_ x212_ x213_ x214_ x215_ x216_ x217_ x218_ x219_ x220_ x221_ x222_ x223_ x224_ x225_ x226_ x227_ x228_ x229_ x230_ x231_ x232_ x233_ x234_ x235_ x236_ x237_ x238_ x239_ x240_ x241_ x242_ x243_ x244_ x245_ x246_ x247_ x248_ x249_ x250_ x251_ x252_ x253_ x254_ x255_ x256_ x257_ : Value) (hJ : ∀ (t19_ t44_ t45_ t46_ t47_ t48_ t49_ t50_ t51_ t52_ t53_ t54_ t55_ t56_ t57_ t58_ t59_ t60_ t61_ t62_ t63_ t64_ t65_ t66_ t67_ t68_ t69_ t70_ t71_ t72_ t73_ t74_ t75_ t76_ t77_ t78_ t79_ t80_ t81_ t82_ t83_ t84_ t85_ t86_ t87_ t88_ t89_ t90_ t91_ t92_ t93_ t94_ t95_ t96_ t97_ t98_ t99_ t100_ t101_ t102_ t103_ t104_ t105_ t106_ t107_ t108_ t109_ t110_ t111_ t112_ t113_ t114_ t115_ t116_ t117_ t118_ t119_ t120_ t121_ t122_ t123_ t124_ t125_ t126_ t127_ t128_ t129_ t130_ t131_ t132_ t133_ t134_ t135_ t136_ t137_ t138_ t139_ t140_ t141_ t142_ t143_ t144_ t145_ t146_ t147_ t148_ t149_ t150_ t151_ t152_ t153_ t154_ t155_ t156_ t157_ t158_ t159_ t160_ t161_ t162_ t163_ t164_ t165_ t166_ t167_ t168_ t169_ t170_ t171_ t172_ t173_ t174_ t175_ t176_ t177_ t178_ t179_ t180_ t181_ t182_ t183_ t184_ t185_ t186_ t187_ t188_ t189_ t190_ t191_ t192_ t193_ t194_ t195_ t196_ t197_ t198_ t199_ t200_ t201_ t202_ t203_ t204_ t205_ t206_ t207_ t208_ t209_ t210_ t211_ t212_ t213_ t214_ t215_ t216_ t217_ t218_ t219_ t220_ t221_ t222_ t223_ t224_ t225_ t226_ t227_ t228_ t229_ t230_ t231_ t232_ t233_ t234_ t235_ t236_ t237_ t238_ t239_ t240_ t241_ t242_ t243_ t244_ t245_ t246_ t247_ t248_ t249_ t250_ t251_ t252_ t253_ t254_ t255_ t256_ : Value) (wx : World), (∃ l : List UInt8, Hid (BV wx t19_ l) ∧ 11 ≤ l.length ∧ l.length ≤ 100 ∧ Hid (Below wq.heap.size wq wx)) → K_ ⟨#[x0_, x1_, x2_, x3_, x4_, x5_, x6_, x7_, x8_, x9_, x10_, x11_, .int .i64 (n : Int), x13_, x14_, x15_, x16_, x17_, x18_, t19_, x20_, x21_, x22_, x23_, x24_, x25_, x26_, x27_, x28_, x29_, x30_, x31_, x32_, x33_, x34_, x35_, x36_, x37_, x38_, x39_, x40_, x41_, x42_, x43_, t44_, t45_, t46_, t47_, t48_, t49_, t50_, t51_, t52_, t53_, t54_, t55_, t56_, t57_, t58_, t59_, t60_, t61_, t62_, t63_, t64_, t65_, t66_, t67_, t68_, t69_, t70_, t71_, t72_, t73_, t74_, t75_, t76_, t77_, t78_, t79_, t80_, t81_, t82_, t83_, t84_, t85_, t86_, t87_, t88_, t89_, t90_, t91_, t92_, t93_, t94_, t95_, t96_, t97_, t98_, t99_, t100_, t101_, t102_, t103_, t104_, t105_, t106_, t107_, t108_, t109_, t110_, t111_, t112_, t113_, t114_, t115_, t116_, t117_, t118_, t119_, t120_, t121_, t122_, t123_, t124_, t125_, t126_, t127_, t128_, t129_, t130_, t131_, t132_, t133_, t134_, t135_, t136_, t137_, t138_, t139_, t140_, t141_, t142_, t143_, t144_, t145_, t146_, t147_, t148_, t149_, t150_, t151_, t152_, t153_, t154_, t155_, t156_, t157_, t158_, t159_, t160_, t161_, t162_, t163_, t164_, t165_, t166_, t167_, t168_, t169_, t170_, t171_, t172_, t173_, t174_, t175_, t176_, t177_, t178_, t179_, t180_, t181_, t182_, t183_, t184_, t185_, t186_, t187_, t188_, t189_, t190_, t191_, t192_, t193_, t194_, t195_, t196_, t197_, t198_, t199_, t200_, t201_, t202_, t203_, t204_, t205_, t206_, t207_, t208_, t209_, t210_, t211_, t212_, t213_, t214_, t215_, t216_, t217_, t218_, t219_, t220_, t221_, t222_, t223_, t224_, t225_, t226_, t227_, t228_, t229_, t230_, t231_, t232_, t233_, t234_, t235_, t236_, t237_, t238_, t239_, t240_, t241_, t242_, t243_, t244_, t245_, t246_, t247_, t248_, t249_, t250_, t251_, t252_, t253_, t254_, t255_, t256_, x257_], []⟩ wx) :
  Code.wp Try.prog ((cndIn 92 ((Try.f3.body).getD .skip)).getD .skip) (Exit.then K_ Q_) ⟨#[x0_, x1_, x2_, x3_, x4_, x5_, x6_, x7_, x8_, x9_, x10_, x11_, .int .i64 (n : Int), x13_, x14_, x15_, x16_, x17_, x18_, .slice (some ⟨gf, 0, none⟩) nu cf, x20_, x21_, x22_, x23_, x24_, x25_, x26_, x27_, x28_, x29_, x30_, x31_, x32_, x33_, x34_, x35_, x36_, x37_, x38_, x39_, x40_, x41_, x42_, x43_, x44_, x45_, x46_, x47_, x48_, x49_, x50_, x51_, x52_, x53_, x54_, x55_, x56_, x57_, x58_, x59_, x60_, x61_, x62_, x63_, x64_, x65_, x66_, x67_, x68_, x69_, x70_, x71_, x72_, x73_, x74_, x75_, x76_, x77_, x78_, x79_, x80_, x81_, x82_, x83_, x84_, x85_, x86_, x87_, x88_, x89_, x90_, x91_, .bool ((r13 : Int) == 0), x93_, x94_, x95_, x96_, x97_, x98_, x99_, x100_, x101_, x102_, x103_, x104_, x105_, x106_, x107_, x108_, x109_, x110_, x111_, x112_, x113_, x114_, x115_, x116_, x117_, x118_, x119_, x120_, x121_, x122_, x123_, x124_, x125_, x126_, x127_, x128_, x129_, x130_, x131_, x132_, x133_, x134_, x135_, x136_, x137_, x138_, x139_, x140_, x141_, x142_, x143_, x144_, x145_, x146_, x147_, x148_, x149_, x150_, x151_, x152_, x153_, x154_, x155_, x156_, x157_, x158_, x159_, x160_, x161_, x162_, x163_, x164_, x165_, x166_, x167_, x168_, x169_, x170_, x171_, x172_, x173_, x174_, x175_, x176_, x177_, x178_, x179_, x180_, x181_, x182_, x183_, x184_, x185_, x186_, x187_, x188_, x189_, x190_, x191_, x192_, x193_, x194_, x195_, x196_, x197_, x198_, x199_, x200_, x201_, x202_, x203_, x204_, x205_, x206_, x207_, x208_, x209_, x210_, x211_, x212_, x213_, x214_, x215_, x216_, x217_, x218_, x219_, x220_, x221_, x222_, x223_, x224_, x225_, x226_, x227_, x228_, x229_, x230_, x231_, x232_, x233_, x234_, x235_, x236_, x237_, x238_, x239_, x240_, x241_, x242_, x243_, x244_, x245_, x246_, x247_, x248_, x249_, x250_, x251_, x252_, x253_, x254_, x255_, x256_, x257_], []⟩ w5 := by
 have HJ_ := Lib.hid hJ; clear hJ
 conv => arg 2; whnf
 conv => arg 4; dsimp only
 go_cut [19] from 44 to 256 (fun s19 wx => ∃ l : List UInt8, Hid (BV wx s19 l) ∧ 11 ≤ l.length ∧ l.length ≤ 100 ∧ Hid (Below wq.heap.size wq wx))
 case rest =>
  exact HJ_.out _ _ _ _ _ _ _ _ _ _ _ _ _ _ _ _ _ _ _ _ _ _ _ _ _ _ _ _ _ _ _ _ _ _ _ _ _ _ _ _ _ _ _ _ _ _ _ _ _ _ _ _ _ _ _ _ _ _ _ _ _ _ _ _ _ _ _ _ _ _ _ _ _ _ _ _ _ _ _ _ _ _ _ _ _ _ _ _ _ _ _ _ _ _ _ _ _ _ _ _ _ _ _ _ _ _ _ _ _ _ _ _ _ _ _ _ _ _ _ _ _ _ _ _ _ _ _ _ _ _ _ _ _ _ _ _ _ _ _ _ _ _ _ _ _ _ _ _ _ _ _ _ _ _ _ _ _ _ _ _ _ _ _ _ _ _ _ _ _ _ _ _ _ _ _ _ _ _ _ _ _ _ _ _ _ _ _ _ _ _ _ _ _ _ _ _ _ _ _ _ _ _ _ _ _ _ _ _ _ _ _ _ _ _ _ hcut
 case first =>
  clear HJ_
  by_cases h0 : r13 = 0
  ·subst h0
   obtain ⟨y, hy, hyn⟩ : ∃ y : Nat, (n : Int) / 13 % (nu : Int) = (y : Int) ∧ y < nu := ⟨n / 13 % nu, by simp, Nat.mod_lt _ (by omega)⟩
   have hy3 : (y : Int) < (nu : Int) := by omega
   have hy4 : (0 : Int) ≤ (y : Int) := by omega
   have hy5 : Int.tmod ((n : Int).tdiv 13) (nu : Int) = (y : Int) := by rw [← hy, Int.tdiv_eq_ediv_of_nonneg (by omega), Int.tmod_eq_emod_of_nonneg (by omega)]
   obtain ⟨cc, hcc⟩ : ∃ c, PQ[y]? = some c := ⟨_, List.getElem?_eq_getElem (by have := HNU.out; omega)⟩
   have hcell := own_cells HO5.out y _ (bc_some hcc)
   rw [Addr.add_lit, Nat.zero_add] at hcell
   have hfz := own_frozen HO5.out y
   obtain ⟨c8, k0, hc8'⟩ : ∃ c : UInt8, IntKind.u8.wrap (n : Int) = (c.toNat : Int) ∧ (n : Int) % 256 = (c.toNat : Int) := ⟨UInt8.ofNat n, Rn.byte n, by rw [UInt8.toNat_ofNat']; omega⟩
   have ho6 := own_put HO5.out y (.int .u8 (c8.toNat : Int))
   rw [bc_set] at ho6
   have HO6 := Lib.hid ho6
   have HGF := Lib.hid hgf
   have hkd := decide_eq_true hy3
   have hnz : ((nu : Int) = 0) = False := by simp; omega
   have hnz2 : ((nu : Int) == 0) = false := by rw [beq_eq_false_iff_ne]; omega
   clear ho6 hcc hgf
   go_upto_region 17 with fail
   refine rn_reg17 w5 n nu cf gf y c8 _ hy5 hy hy3 hy4 hkd hnz k0 hc8' hnb hcell hfz _ _ _ _ _ _ _ _ _ _ _ _ _ _ _ _ _ _ _ _ _ _ _ _ _ _ _ _ _ _ _ _ _ _ _ _ _ _ _ _ _ _ _ _ _ _ _ _ _ _ _ _ _ _ _ _ _ _ _ _ _ _ _ _ _ _ _ _ _ _ _ _ _ _ _ _ _ _ _ _ _ _ _ _ _ _ _ _ _ _ _ _ _ _ _ _ _ _ _ _ _ _ _ _ _ _ _ _ _ _ _ _ _ _ _ _ _ _ _ _ _ _ _ _ _ _ _ _ _ _ _ _ _ _ _ _ _ _ _ _ _ _ _ _ _ _ _ _ _ _ _ _ _ _ _ _ _ _ _ _ _ _ _ _ _ _ _ _ _ _ _ _ _ _ _ _ _ _ _ _ _ _ _ _ _ _ _ _ _ _ _ _ _ _ _ _ _ _ _ _ _ _ _ _ _ _ _ _ _ _ _ _ _ _ _ _ _ _ _ _ _ _ _ _ _ _ _ _ _ _ _ _ _ _ _ _ _ _ _ _ _ _ _ _ _ _ _ _ _ _ _ _ _ _ _ _ ?_
   have k1 := Lib.hid (HB5.out.setCell HGF.out (p := ⟨gf, y, none⟩) (.int .u8 (c8.toNat : Int)))
   generalize hW6 : w5.setCell ⟨gf, y, none⟩ (.int .u8 (c8.toNat : Int)) = w6 at HO6 k1 ⊢
   obtain ⟨l7, h7a, h7b, h7c⟩ := rn_put HO6.out HNU.out hp1 hp2
   replace h7a := Lib.hid h7a
   clear hW6 hcell hfz hy hy5 hy3 hy4 hkd hnz hnz2 k0 hc8' HO5 HB5 hr13 hr13' HO6
   go_wp2
   go_meet
   exact ⟨l7, h7a, h7b, h7c, k1⟩
  ·have k3 : ((r13 : Int) == 0) = false := by rw [beq_eq_false_iff_ne]; omega
   go_wp2
   go_meet
   exact ⟨PQ, Lib.hid (BV.own (by rw [← HNU.out]; exact own_base HO5.out (Nat.zero_le _))), by rw [← HNU.out]; exact hp1, by rw [← HNU.out]; exact hp2, HB5⟩
set_option maxRecDepth 100000 in
theorem rn_tail {Q_ : Exit → Act → World → Prop} (w wq w8 : World) (ge gm i gq np cq gt ct x t : Nat) (ef mf : Nat → Nat) (Sf : Nat → K.E) (Rf : Nat → Rn.E) (ow : Nat → List Nat) (P : List (List UInt8)) (T : List Nat) (key : Int) (s19_ : Value) (l3 : List UInt8) (hi : i < 60) (hx3 : (x : Int) < (np : Int)) (hx4 : (0 : Int) ≤ (x : Int)) (ht2 : t < 2) (ht3 : (t : Int) < 2) (ht4 : (0 : Int) ≤ (t : Int)) (HT : Hid (∀ (wx : World) (ow : Nat → List Nat) (Sf : Nat → K.E) (Rf : Nat → Rn.E), Rn.Mem w.heap.size ge gm ef mf wx ow (.slice (some ⟨gq, 0, none⟩) np cq) (.slice (some ⟨gt, 0, none⟩) np ct) Sf Rf P T → wx.cell? ⟨gt, x, none⟩ = some (.int .i64 (t : Int)))) (HM : Hid (Rn.Mem w.heap.size ge gm ef mf wq ow (.slice (some ⟨gq, 0, none⟩) np cq) (.slice (some ⟨gt, 0, none⟩) np ct) Sf Rf P T)) (HI : Hid (Rn.All i Sf Rf P T)) (HB : Hid (Below w.heap.size w wq)) (HBV : Hid (BV w8 s19_ l3)) (hl1 : l3.length ≤ 100) (HB6 : Hid (Below wq.heap.size wq w8))
  (x0_ x2_ x3_ x4_ x5_ x6_ x11_ x12_ x13_ x14_ x15_ x16_ x17_ x20_ x21_ x22_ x23_ x24_ x25_ x26_ x27_ x28_ x29_ x30_ x31_ x32_ x33_ x34_ x35_ x36_ x37_ x38_ x39_ x40_ x41_ x42_ x43_ x44_ x45_ x46_ x47_ x48_ x49_ x50_ x51_ x52_ x53_ x54_ x55_ x56_ x57_ x58_ x59_ x60_ x61_ x62_ x63_ x64_ x65_ x66_ x67_ x68_ x69_ x70_ x71_ x72_ x73_ x74_ x75_ x76_ x77_ x78_ x79_ x80_ x81_ x82_ x83_ x84_ x85_ x86_ x87_ x88_ x89_ x90_ x91_ x92_ x93_ x94_ x95_ x96_ x97_ x98_ x99_ x100_ x101_ x102_ x103_ x104_ x105_ x106_ x107_ x108_ x109_ x110_ x111_ x112_ x113_ x114_ x115_ x116_ x117_ x118_ x119_ x120_ x121_ x122_ x123_ x124_ x125_ x126_ x127_ x128_ x129_ x130_ x131_ x132_ x133_ x134_ x135_ x136_ x137_ x138_ x139_ x140_ x141_ x142_ x143_ x144_ x145_ x146_ x147_ x148_ x149_ x150_ x151_ x152_ x153_ x154_ x155_ x156_ x157_ x158_ x159_ x160_ x161_ x162_ x163_ x164_ x165_ x166_ x167_ x168_ x169_ x170_ x171_ x172_ x173_ x174_ x175_ x176_ x177_ x178_ x179_ x180_ x181_ x182_ x183_ x184_ x185_ x186_ x187_ x188_ x189_ x190_ x191_ x192_ x193_ x194_ x195_ x196_ x197_ x198_ x199_ x200_ x201_ x202_ x203_ x204_ x205_ x206_ x207_ x208_ x209_ x210_ x211_ x212_ x213_ x214_ x215_ x216_ x217_ x218_ x219_ x220_ x221_ x222_ x223_ x224_ x225_ x226_ x227_ x228_ x229_ x230_ x231_ x232_ x233_ x234_ x235_ x236_ x237_ x238_ x239_ x240_ x241_ x242_ x243_ x244_ x245_ x246_ x247_ x248_ x249_ x250_ x251_ x252_ x253_ x254_ x255_ x256_ x257_ : Value) (hJ : ∀ (t6_ t20_ t21_ t22_ t23_ t44_ t45_ t46_ t47_ t48_ t49_ t50_ t51_ t52_ t53_ t54_ t55_ t56_ t57_ t58_ t59_ t60_ t61_ t62_ t63_ t64_ t65_ t66_ t67_ t68_ t69_ t70_ t71_ t72_ t73_ t74_ t75_ t76_ t77_ t78_ t79_ t80_ t81_ t82_ t83_ t84_ t85_ t86_ t87_ t88_ t89_ t90_ t91_ t92_ t93_ t94_ t95_ t96_ t97_ t98_ t99_ t100_ t101_ t102_ t103_ t104_ t105_ t106_ t107_ t108_ t109_ t110_ t111_ t112_ t113_ t114_ t115_ t116_ t117_ t118_ t119_ t120_ t121_ t122_ t123_ t124_ t125_ t126_ t127_ t128_ t129_ t130_ t131_ t132_ t133_ t134_ t135_ t136_ t137_ t138_ t139_ t140_ t141_ t142_ t143_ t144_ t145_ t146_ t147_ t148_ t149_ t150_ t151_ t152_ t153_ t154_ t155_ t156_ t157_ t158_ t159_ t160_ t161_ t162_ t163_ t164_ t165_ t166_ t167_ t168_ t169_ t170_ t171_ t172_ t173_ t174_ t175_ t176_ t177_ t178_ t179_ t180_ t181_ t182_ t183_ t184_ t185_ t186_ t187_ t188_ t189_ t190_ t191_ t192_ t193_ t194_ t195_ t196_ t197_ t198_ t199_ t200_ t201_ t202_ t203_ t204_ t205_ t206_ t207_ t208_ t209_ t210_ t211_ t212_ t213_ t214_ t215_ t216_ t217_ t218_ t219_ t220_ t221_ t222_ t223_ t224_ t225_ t226_ t227_ t228_ t229_ t230_ t231_ t232_ t233_ t234_ t235_ t236_ t237_ t238_ t239_ t240_ t241_ t242_ t243_ t244_ t245_ t246_ t247_ t248_ t249_ t250_ t251_ t252_ t253_ t254_ t255_ t256_ : Value) (wx : World), (∃ (Sf : Nat → K.E) (Rf : Nat → Rn.E) (ow : Nat → List Nat), Hid (Rn.Mem w.heap.size ge gm ef mf wx ow (.slice (some ⟨gq, 0, none⟩) np cq) (.slice (some ⟨gt, 0, none⟩) np ct) Sf Rf P T) ∧ Hid (Rn.All (i + 1) Sf Rf P T) ∧ Hid (Below w.heap.size w wx)) → Q_ .normal ⟨#[x0_, .int .u64 key, x2_, x3_, x4_, x5_, t6_, .slice (some ⟨ge, 0, none⟩) 2 2, .slice (some ⟨gm, 0, none⟩) 2 2, .slice (some ⟨gq, 0, none⟩) np cq, .slice (some ⟨gt, 0, none⟩) np ct, x11_, x12_, x13_, x14_, x15_, x16_, x17_, .int .i64 (x : Int), s19_, t20_, t21_, t22_, t23_, x24_, x25_, x26_, x27_, x28_, x29_, x30_, x31_, x32_, x33_, x34_, x35_, x36_, x37_, x38_, x39_, x40_, x41_, x42_, x43_, t44_, t45_, t46_, t47_, t48_, t49_, t50_, t51_, t52_, t53_, t54_, t55_, t56_, t57_, t58_, t59_, t60_, t61_, t62_, t63_, t64_, t65_, t66_, t67_, t68_, t69_, t70_, t71_, t72_, t73_, t74_, t75_, t76_, t77_, t78_, t79_, t80_, t81_, t82_, t83_, t84_, t85_, t86_, t87_, t88_, t89_, t90_, t91_, t92_, t93_, t94_, t95_, t96_, t97_, t98_, t99_, t100_, t101_, t102_, t103_, t104_, t105_, t106_, t107_, t108_, t109_, t110_, t111_, t112_, t113_, t114_, t115_, t116_, t117_, t118_, t119_, t120_, t121_, t122_, t123_, t124_, t125_, t126_, t127_, t128_, t129_, t130_, t131_, t132_, t133_, t134_, t135_, t136_, t137_, t138_, t139_, t140_, t141_, t142_, t143_, t144_, t145_, t146_, t147_, t148_, t149_, t150_, t151_, t152_, t153_, t154_, t155_, t156_, t157_, t158_, t159_, t160_, t161_, t162_, t163_, t164_, t165_, t166_, t167_, t168_, t169_, t170_, t171_, t172_, t173_, t174_, t175_, t176_, t177_, t178_, t179_, t180_, t181_, t182_, t183_, t184_, t185_, t186_, t187_, t188_, t189_, t190_, t191_, t192_, t193_, t194_, t195_, t196_, t197_, t198_, t199_, t200_, t201_, t202_, t203_, t204_, t205_, t206_, t207_, t208_, t209_, t210_, t211_, t212_, t213_, t214_, t215_, t216_, t217_, t218_, t219_, t220_, t221_, t222_, t223_, t224_, t225_, t226_, t227_, t228_, t229_, t230_, t231_, t232_, t233_, t234_, t235_, t236_, t237_, t238_, t239_, t240_, t241_, t242_, t243_, t244_, t245_, t246_, t247_, t248_, t249_, t250_, t251_, t252_, t253_, t254_, t255_, t256_, x257_], []⟩ wx) :
  Code.wp Try.prog ((seqIn 22 ((Try.f3.body).getD .skip)).getD .skip) Q_ ⟨#[x0_, .int .u64 key, x2_, x3_, x4_, x5_, x6_, .slice (some ⟨ge, 0, none⟩) 2 2, .slice (some ⟨gm, 0, none⟩) 2 2, .slice (some ⟨gq, 0, none⟩) np cq, .slice (some ⟨gt, 0, none⟩) np ct, x11_, x12_, x13_, x14_, x15_, x16_, x17_, .int .i64 (x : Int), s19_, x20_, x21_, x22_, x23_, x24_, x25_, x26_, x27_, x28_, x29_, x30_, x31_, x32_, x33_, x34_, x35_, x36_, x37_, x38_, x39_, x40_, x41_, x42_, x43_, x44_, x45_, x46_, x47_, x48_, x49_, x50_, x51_, x52_, x53_, x54_, x55_, x56_, x57_, x58_, x59_, x60_, x61_, x62_, x63_, x64_, x65_, x66_, x67_, x68_, x69_, x70_, x71_, x72_, x73_, x74_, x75_, x76_, x77_, x78_, x79_, x80_, x81_, x82_, x83_, x84_, x85_, x86_, x87_, x88_, x89_, x90_, x91_, x92_, x93_, x94_, x95_, x96_, x97_, x98_, x99_, x100_, x101_, x102_, x103_, x104_, x105_, x106_, x107_, x108_, x109_, x110_, x111_, x112_, x113_, x114_, x115_, x116_, x117_, x118_, x119_, x120_, x121_, x122_, x123_, x124_, x125_, x126_, x127_, x128_, x129_, x130_, x131_, x132_, x133_, x134_, x135_, x136_, x137_, x138_, x139_, x140_, x141_, x142_, x143_, x144_, x145_, x146_, x147_, x148_, x149_, x150_, x151_, x152_, x153_, x154_, x155_, x156_, x157_, x158_, x159_, x160_, x161_, x162_, x163_, x164_, x165_, x166_, x167_, x168_, x169_, x170_, x171_, x172_, x173_, x174_, x175_, x176_, x177_, x178_, x179_, x180_, x181_, x182_, x183_, x184_, x185_, x186_, x187_, x188_, x189_, x190_, x191_, x192_, x193_, x194_, x195_, x196_, x197_, x198_, x199_, x200_, x201_, x202_, x203_, x204_, x205_, x206_, x207_, x208_, x209_, x210_, x211_, x212_, x213_, x214_, x215_, x216_, x217_, x218_, x219_, x220_, x221_, x222_, x223_, x224_, x225_, x226_, x227_, x228_, x229_, x230_, x231_, x232_, x233_, x234_, x235_, x236_, x237_, x238_, x239_, x240_, x241_, x242_, x243_, x244_, x245_, x246_, x247_, x248_, x249_, x250_, x251_, x252_, x253_, x254_, x255_, x256_, x257_], []⟩ w8 := by
 have HJ_ := Lib.hid hJ; clear hJ
 conv => arg 2; whnf
 conv => arg 4; dsimp only
 have HBV0 := HBV.out
 obtain ⟨Al, cl, rfl, hlc, hlm, -⟩ := HBV0
 obtain ⟨n1, hn1⟩ : ∃ n1, n1 = l3.length := ⟨_, rfl⟩
 have HN1 := Lib.hid hn1
 rw [← hn1] at HBV ⊢
 clear hn1 hlc hlm
 have HM8 := Lib.hid (HM.out.below HB6.out)
 have k0 := Lib.hid (Blw HB.out HB6.out)
 obtain ⟨r, hr⟩ : ∃ r, r = K.inn (Rf t).k l3 := ⟨_, rfl⟩
 have HR_ := Lib.hid hr
 have f1 := HT.out w8 ow Sf Rf HM8.out
 have f2 : w8.cell? ⟨ge, t, none⟩ = some (.pointer (some ⟨ef t, 0, none⟩)) := HM8.out.xe.cell (two_get (f := pv ef) ht2)
 clear hr HM HB HB6
 go_wp2_with fail
 refine (m_in HM8.out ht2 k0.out.size (HI.out.ok ht2 (by omega)) HBV.out (by omega)).mono ?_
 rintro e w9 ⟨v9, rfl, hr9, hT9, hM9⟩
 rw [HI.out.s t ht2, ← HR_.out] at hr9 hM9 ⊢
 dsimp only
 have HM9 := Lib.hid hM9
 have HR9 := Lib.hid hr9
 have k1 := Lib.hid (k0.out.trans (hT9.below k0.out.size))
 have HBV9 := Lib.hid (HBV.out.kb hT9.kb)
 have HOW := Lib.hid (show ∀ x ∈ ow t, x < w8.heap.size from (HM8.out.re t ht2).lt)
 have f3 := HT.out w9 _ _ _ hM9
 have f4 : w9.cell? ⟨gm, t, none⟩ = some (.pointer (some ⟨mf t, 0, none⟩)) := hM9.xm.cell (two_get (f := pv mf) ht2)
 clear f1 f2 hr9 hT9 hM9 HM8 k0 HBV
 go_wp2_with fail
 refine (m_rin HM9.out ht2 k1.out.size (HI.out.i t ht2) (by omega) HBV9.out (by omega)).mono ?_
 rintro e w10 ⟨v10, rfl, hr10, hT10, ht10, ow', R', hk', hi', hM10⟩
 rw [← HR_.out] at hr10 hk' ⊢
 dsimp only
 have HSL := Lib.hid (same_lists (HR9.out.tt ht10 (fun y hy e => by have h1 := (HR9.out.lt y (mem_ob.1 hy)).1; have h2 := HOW.out y e; omega)) hr10)
 have HM10 := Lib.hid hM10
 have k3 := Lib.hid (k1.out.trans (hT10.below k1.out.size))
 have HI10 := Lib.hid (HI.out.step ht2 hk'.symm hi')
 clear f3 f4 hr10 hT10 ht10 hk' hi' hM10 HM9 k1 HR9 HBV9 HOW HR_
 go_wp2_with fail
 refine HSL.out.mono ?_
 rintro e w11 ⟨rfl, k2⟩
 dsimp only
 have HM11 := Lib.hid (HM10.out.below k2)
 have k4 := Lib.hid (Blw k3.out k2)
 clear k2 HM10 k3 HSL
 go_wp2
 obtain rfl := HN1.out
 exact HJ_.out _ _ _ _ _ _ _ _ _ _ _ _ _ _ _ _ _ _ _ _ _ _ _ _ _ _ _ _ _ _ _ _ _ _ _ _ _ _ _ _ _ _ _ _ _ _ _ _ _ _ _ _ _ _ _ _ _ _ _ _ _ _ _ _ _ _ _ _ _ _ _ _ _ _ _ _ _ _ _ _ _ _ _ _ _ _ _ _ _ _ _ _ _ _ _ _ _ _ _ _ _ _ _ _ _ _ _ _ _ _ _ _ _ _ _ _ _ _ _ _ _ _ _ _ _ _ _ _ _ _ _ _ _ _ _ _ _ _ _ _ _ _ _ _ _ _ _ _ _ _ _ _ _ _ _ _ _ _ _ _ _ _ _ _ _ _ _ _ _ _ _ _ _ _ _ _ _ _ _ _ _ _ _ _ _ _ _ _ _ _ _ _ _ _ _ _ _ _ _ _ _ _ _ _ _ _ _ _ _ _ _ _ _ _ _ _ _ _ _ ⟨_, _, _, HM11, HI10, k4⟩
set_option maxRecDepth 100000 in
theorem rn_send0 {K_ : Act → World → Prop} {Q_ : Exit → Act → World → Prop} (w wq : World) (ge gm i n k h : Nat) (ef mf : Nat → Nat) (Sf : Nat → K.E) (Rf : Nat → Rn.E) (ow : Nat → List Nat) (P : List (List UInt8)) (T : List Nat) (key : Int) (u9 u10 : Value) (HK : Hid (0 ≤ key ∧ key < 18446744073709551616)) (hi : i < 60) (hnb : n < 1073741824) (hk2 : k < 2) (hk3 : (k : Int) < 2) (hk4 : (0 : Int) ≤ (k : Int)) (HM : Hid (Rn.Mem w.heap.size ge gm ef mf wq ow u9 u10 Sf Rf P T)) (HI : Hid (Rn.All i Sf Rf P T)) (HB : Hid (Below w.heap.size w wq)) (h0 : h = 0)
  (x0_ x2_ x3_ x4_ x5_ x6_ x14_ x15_ x16_ x17_ x18_ x19_ x20_ x21_ x22_ x23_ x24_ x25_ x26_ x27_ x28_ x29_ x30_ x31_ x32_ x33_ x34_ x35_ x36_ x37_ x38_ x39_ x40_ x41_ x42_ x43_ x44_ x45_ x46_ x47_ x48_ x49_ x50_ x51_ x52_ x53_ x54_ x55_ x56_ x57_ x58_ x59_ x60_ x61_ x62_ x63_ x64_ x65_ x67_ x68_ x69_ x70_ x71_ x72_ x73_ x74_ x75_ x76_ x77_ x78_ x79_ x80_ x81_ x82_ x83_ x84_ x85_ x86_ x87_ x88_ x89_ x90_ x91_ x92_ x93_ x94_ x95_ x96_ x97_ x98_ x99_ x100_ x101_ x102_ x103_ x104_ x105_ x106_ x107_ x108_ x109_ x110_ x111_ x112_ x113_ x114_ x115_ x116_ x117_ x118_ x119_ x120_ x121_ x122_ x123_ x124_ x125_ x126_ x127_ x128_ x129_ x130_ x131_ x132_ x133_ x134_ x135_ x136_ x137_ x138_ x139_ x140_ x141_ x142_ x143_ x144_ x145_ x146_ x147_ x148_ x149_ x150_ x151_ x152_ x153_ x154_ x155_ x156_ x157_ x158_ x159_ x160_ x161_ x162_ x163_ x164_ x165_ x166_ x167_ x168_ x169_ x170_ x171_ x172_ x173_ x174_ x175_ x176_ x177_ x178_ x179_ x180_ x181_ x182_ x183_ x184_ x185_ x186_ x187_ x188_ x189_ x190_ x191_ x192_ x193_ x194_ x195_ x196_ x197_ x198_ x199_ x200_ x201_ x202_ x203_ x204_ x205_ x206_ x207_ x208_ x209_ x210_ x211_ x212_ x213_ x214_ x215_ x216_ x217_ x218_ x219_ x220_ x221_ x222_ x223_ x224_ x225_ x226_ x227_ x228_ x229_ x230_ x231_ x232_ x233_ x234_ x235_ x236_ x237_ x238_ x239_ x240_ x241_ x242_ x243_ x244_ x245_ x246_ x247_ x248_ x249_ x250_ x251_ x252_ x253_ x254_ x255_ x256_ x257_ : Value) (hJ : ∀ (s6_ s9_ s10_ s14_ s15_ s16_ s17_ s18_ s19_ s20_ s21_ s22_ s23_ t44_ t45_ t46_ t47_ t48_ t49_ t50_ t51_ t52_ t53_ t54_ t55_ t56_ t57_ t58_ t59_ t60_ t61_ t62_ t63_ t64_ t65_ t66_ t67_ t68_ t69_ t70_ t71_ t72_ t73_ t74_ t75_ t76_ t77_ t78_ t79_ t80_ t81_ t82_ t83_ t84_ t85_ t86_ t87_ t88_ t89_ t90_ t91_ t92_ t93_ t94_ t95_ t96_ t97_ t98_ t99_ t100_ t101_ t102_ t103_ t104_ t105_ t106_ t107_ t108_ t109_ t110_ t111_ t112_ t113_ t114_ t115_ t116_ t117_ t118_ t119_ t120_ t121_ t122_ t123_ t124_ t125_ t126_ t127_ t128_ t129_ t130_ t131_ t132_ t133_ t134_ t135_ t136_ t137_ t138_ t139_ t140_ t141_ t142_ t143_ t144_ t145_ t146_ t147_ t148_ t149_ t150_ t151_ t152_ t153_ t154_ t155_ t156_ t157_ t158_ t159_ t160_ t161_ t162_ t163_ t164_ t165_ t166_ t167_ t168_ t169_ t170_ t171_ t172_ t173_ t174_ t175_ t176_ t177_ t178_ t179_ t180_ t181_ t182_ t183_ t184_ t185_ t186_ t187_ t188_ t189_ t190_ t191_ t192_ t193_ t194_ t195_ t196_ t197_ t198_ t199_ t200_ t201_ t202_ t203_ t204_ t205_ t206_ t207_ t208_ t209_ t210_ t211_ t212_ t213_ t214_ t215_ t216_ t217_ t218_ t219_ t220_ t221_ t222_ t223_ t224_ t225_ t226_ t227_ t228_ t229_ t230_ t231_ t232_ t233_ t234_ t235_ t236_ t237_ t238_ t239_ t240_ t241_ t242_ t243_ t244_ t245_ t246_ t247_ t248_ t249_ t250_ t251_ t252_ t253_ t254_ t255_ t256_ : Value) (wx : World), (∃ (Sf : Nat → K.E) (Rf : Nat → Rn.E) (ow : Nat → List Nat) (P : List (List UInt8)) (T : List Nat), Hid (Rn.Mem w.heap.size ge gm ef mf wx ow s9_ s10_ Sf Rf P T) ∧ Hid (Rn.All (i + 1) Sf Rf P T) ∧ Hid (Below w.heap.size w wx)) → K_ ⟨#[x0_, .int .u64 key, x2_, x3_, x4_, x5_, s6_, .slice (some ⟨ge, 0, none⟩) 2 2, .slice (some ⟨gm, 0, none⟩) 2 2, s9_, s10_, .int .i64 (i : Int), .int .i64 (n : Int), .int .i64 (k : Int), s14_, s15_, s16_, s17_, s18_, s19_, s20_, s21_, s22_, s23_, x24_, x25_, x26_, x27_, x28_, x29_, x30_, x31_, x32_, x33_, x34_, x35_, x36_, x37_, x38_, x39_, x40_, x41_, x42_, x43_, t44_, t45_, t46_, t47_, t48_, t49_, t50_, t51_, t52_, t53_, t54_, t55_, t56_, t57_, t58_, t59_, t60_, t61_, t62_, t63_, t64_, t65_, t66_, t67_, t68_, t69_, t70_, t71_, t72_, t73_, t74_, t75_, t76_, t77_, t78_, t79_, t80_, t81_, t82_, t83_, t84_, t85_, t86_, t87_, t88_, t89_, t90_, t91_, t92_, t93_, t94_, t95_, t96_, t97_, t98_, t99_, t100_, t101_, t102_, t103_, t104_, t105_, t106_, t107_, t108_, t109_, t110_, t111_, t112_, t113_, t114_, t115_, t116_, t117_, t118_, t119_, t120_, t121_, t122_, t123_, t124_, t125_, t126_, t127_, t128_, t129_, t130_, t131_, t132_, t133_, t134_, t135_, t136_, t137_, t138_, t139_, t140_, t141_, t142_, t143_, t144_, t145_, t146_, t147_, t148_, t149_, t150_, t151_, t152_, t153_, t154_, t155_, t156_, t157_, t158_, t159_, t160_, t161_, t162_, t163_, t164_, t165_, t166_, t167_, t168_, t169_, t170_, t171_, t172_, t173_, t174_, t175_, t176_, t177_, t178_, t179_, t180_, t181_, t182_, t183_, t184_, t185_, t186_, t187_, t188_, t189_, t190_, t191_, t192_, t193_, t194_, t195_, t196_, t197_, t198_, t199_, t200_, t201_, t202_, t203_, t204_, t205_, t206_, t207_, t208_, t209_, t210_, t211_, t212_, t213_, t214_, t215_, t216_, t217_, t218_, t219_, t220_, t221_, t222_, t223_, t224_, t225_, t226_, t227_, t228_, t229_, t230_, t231_, t232_, t233_, t234_, t235_, t236_, t237_, t238_, t239_, t240_, t241_, t242_, t243_, t244_, t245_, t246_, t247_, t248_, t249_, t250_, t251_, t252_, t253_, t254_, t255_, t256_, x257_], []⟩ wx) :
  Code.wp Try.prog ((blkIn 2 ((Try.f3.body).getD .skip)).getD .skip) (Exit.then K_ Q_) ⟨#[x0_, .int .u64 key, x2_, x3_, x4_, x5_, x6_, .slice (some ⟨ge, 0, none⟩) 2 2, .slice (some ⟨gm, 0, none⟩) 2 2, u9, u10, .int .i64 (i : Int), .int .i64 (n : Int), .int .i64 (k : Int), x14_, x15_, x16_, x17_, x18_, x19_, x20_, x21_, x22_, x23_, x24_, x25_, x26_, x27_, x28_, x29_, x30_, x31_, x32_, x33_, x34_, x35_, x36_, x37_, x38_, x39_, x40_, x41_, x42_, x43_, x44_, x45_, x46_, x47_, x48_, x49_, x50_, x51_, x52_, x53_, x54_, x55_, x56_, x57_, x58_, x59_, x60_, x61_, x62_, x63_, x64_, x65_, .int .i64 (h : Int), x67_, x68_, x69_, x70_, x71_, x72_, x73_, x74_, x75_, x76_, x77_, x78_, x79_, x80_, x81_, x82_, x83_, x84_, x85_, x86_, x87_, x88_, x89_, x90_, x91_, x92_, x93_, x94_, x95_, x96_, x97_, x98_, x99_, x100_, x101_, x102_, x103_, x104_, x105_, x106_, x107_, x108_, x109_, x110_, x111_, x112_, x113_, x114_, x115_, x116_, x117_, x118_, x119_, x120_, x121_, x122_, x123_, x124_, x125_, x126_, x127_, x128_, x129_, x130_, x131_, x132_, x133_, x134_, x135_, x136_, x137_, x138_, x139_, x140_, x141_, x142_, x143_, x144_, x145_, x146_, x147_, x148_, x149_, x150_, x151_, x152_, x153_, x154_, x155_, x156_, x157_, x158_, x159_, x160_, x161_, x162_, x163_, x164_, x165_, x166_, x167_, x168_, x169_, x170_, x171_, x172_, x173_, x174_, x175_, x176_, x177_, x178_, x179_, x180_, x181_, x182_, x183_, x184_, x185_, x186_, x187_, x188_, x189_, x190_, x191_, x192_, x193_, x194_, x195_, x196_, x197_, x198_, x199_, x200_, x201_, x202_, x203_, x204_, x205_, x206_, x207_, x208_, x209_, x210_, x211_, x212_, x213_, x214_, x215_, x216_, x217_, x218_, x219_, x220_, x221_, x222_, x223_, x224_, x225_, x226_, x227_, x228_, x229_, x230_, x231_, x232_, x233_, x234_, x235_, x236_, x237_, x238_, x239_, x240_, x241_, x242_, x243_, x244_, x245_, x246_, x247_, x248_, x249_, x250_, x251_, x252_, x253_, x254_, x255_, x256_, x257_], []⟩ wq := by
 have HJ_ := Lib.hid hJ; clear hJ
 have hi4 : (0 : Int) ≤ (i : Int) := by omega
 have hi5 : (i : Int) < 60 := by omega
 conv => arg 2; whnf
 conv => arg 4; dsimp only
 go_cut [9, 10, 14, 15, 16, 17, 18, 19, 20, 21, 22, 23] from 44 to 256 (fun s9 s10 s14 s15 s16 s17 s18 s19 s20 s21 s22 s23 wx => ∃ (Sf : Nat → K.E) (Rf : Nat → Rn.E) (ow : Nat → List Nat) (P : List (List UInt8)) (T : List Nat), Hid (Rn.Mem w.heap.size ge gm ef mf wx ow s9 s10 Sf Rf P T) ∧ Hid (Rn.All (i + 1) Sf Rf P T) ∧ Hid (Below w.heap.size w wx))
 case rest =>
  exact HJ_.out _ _ _ _ _ _ _ _ _ _ _ _ _ _ _ _ _ _ _ _ _ _ _ _ _ _ _ _ _ _ _ _ _ _ _ _ _ _ _ _ _ _ _ _ _ _ _ _ _ _ _ _ _ _ _ _ _ _ _ _ _ _ _ _ _ _ _ _ _ _ _ _ _ _ _ _ _ _ _ _ _ _ _ _ _ _ _ _ _ _ _ _ _ _ _ _ _ _ _ _ _ _ _ _ _ _ _ _ _ _ _ _ _ _ _ _ _ _ _ _ _ _ _ _ _ _ _ _ _ _ _ _ _ _ _ _ _ _ _ _ _ _ _ _ _ _ _ _ _ _ _ _ _ _ _ _ _ _ _ _ _ _ _ _ _ _ _ _ _ _ _ _ _ _ _ _ _ _ _ _ _ _ _ _ _ _ _ _ _ _ _ _ _ _ _ _ _ _ _ _ _ _ _ _ _ _ _ _ _ _ _ _ _ _ _ _ _ _ _ _ _ _ _ _ _ _ _ hcut
 case first =>
  clear HJ_
  subst h0
  go_upto_region 29 with fail
  skip
  generalize hW4 : wq.alloc (.cells _ 5) = w4
  have HBV : Hid (BV w4 (.slice (some ⟨wq.heap.size, 0, none⟩) 2 2) [UInt8.ofNat i, UInt8.ofNat n]) := Lib.hid (by rw [← hW4]; exact Rn.bv2 wq (UInt8.ofNat i) (UInt8.ofNat n) (congrArg (Value.int .u8) (show (i : Int) = ((UInt8.ofNat i).toNat : Int) by rw [UInt8.toNat_ofNat']; omega)) (by first | rfl | exact congrArg (Value.int .u8) (Rn.byte n)))
  obtain ⟨-, k3⟩ := box1 hW4
  obtain ⟨gb, hgb⟩ : ∃ g, g = wq.heap.size := ⟨_, rfl⟩
  rw [← hgb] at HBV ⊢
  have HM4 := Lib.hid (HM.out.below k3)
  have k2 := Lib.hid (Blw HB.out k3)
  have HI6 := Lib.hid (HI.out.send hk2 (b := [UInt8.ofNat i, UInt8.ofNat n]) rfl)
  have HCE : Hid (∀ wx, KT w.heap.size [ge, gm] w4 wx → wx.cell? ⟨ge, k, none⟩ = some (.pointer (some ⟨ef k, 0, none⟩))) := Lib.hid (fun wx h => (h.bx (by simp) HM4.out.xe).cell (two_get (f := pv ef) hk2))
  have HCM : Hid (∀ wx, KT w.heap.size [ge, gm] w4 wx → wx.cell? ⟨gm, k, none⟩ = some (.pointer (some ⟨mf k, 0, none⟩))) := Lib.hid (fun wx h => (h.bx (by simp) HM4.out.xm).cell (two_get (f := pv mf) hk2))
  have HSD : Hid (∀ wx, Below w4.heap.size w4 wx → Calls Try.prog 11 #[.pointer (some ⟨ef k, 0, none⟩), .slice (some ⟨gb, 0, none⟩) 2 2] wx fun e w' => ∃ v, e = .returned v ∧ (KT w.heap.size [ge, gm] wx w' ∧ Rn.Mem w.heap.size ge gm ef mf w' ow u9 u10 (K.upd Sf k { Sf k with wait := (Sf k).wait ++ [[UInt8.ofNat i, UInt8.ofNat n]] }) Rf P T) ∧ SC (.int .i64 0) w' v) := Lib.hid (fun wx hb =>
   (m_send (HM4.out.below hb) hk2 (by have := hb.size; have := k2.out.size; omega) (HBV.out.below hb) (by simp) (by have h1 := HI.out.wait hk2; have h2 := (HI.out.i k hk2).s.1; have h3 := (HI.out.i k hk2).a; omega)).mono fun e w' ⟨h1, h2, h3⟩ => ⟨_, h1, ⟨h2, h3⟩, rfl⟩)
  have HRS : Hid (∀ wx, KT w.heap.size [ge, gm] w4 wx → Rn.Mem w.heap.size ge gm ef mf wx ow u9 u10 (K.upd Sf k { Sf k with wait := (Sf k).wait ++ [[UInt8.ofNat i, UInt8.ofNat n]] }) Rf P T → Calls Try.prog 12 #[.pointer (some ⟨mf k, 0, none⟩), .slice (some ⟨gb, 0, none⟩) 2 2] wx fun e w' => ∃ v, e = .returned v ∧ (KT w.heap.size [ge, gm] wx w' ∧ ∃ ow', Rn.Mem w.heap.size ge gm ef mf w' ow' u9 u10 (K.upd Sf k { Sf k with wait := (Sf k).wait ++ [[UInt8.ofNat i, UInt8.ofNat n]] }) (K.upd Rf k { Rf k with sent := (Rf k).sent ++ [[UInt8.ofNat i, UInt8.ofNat n]] }) P T) ∧ SC (.int .i64 0) w' v) := Lib.hid (fun wx ht hm =>
   (m_rsend hm hk2 (by have := ht.size; have := k2.out.size; omega) (HBV.out.kb ht.kb) (by simp) (HI.out.i k hk2) (by omega)).mono fun e w' ⟨h1, h2, h3⟩ => ⟨_, h1, ⟨h2, h3⟩, rfl⟩)
  clear hW4 k3 hgb HM HB HBV HI
  generalize hW_29 : w4.drew = W_29
  refine gen_act ?_
  intro F_ hF_
  have ev7 : F_.eval (.tmp 7) = .slice (some ⟨ge, 0, none⟩) 2 2 := by rw [← hF_]; rfl
  have ev8 : F_.eval (.tmp 8) = .slice (some ⟨gm, 0, none⟩) 2 2 := by rw [← hF_]; rfl
  have ev13 : F_.eval (.tmp 13) = .int .i64 (k : Int) := by rw [← hF_]; rfl
  have ev14 : F_.eval (.tmp 14) = .slice (some ⟨gb, 0, none⟩) 2 2 := by rw [← hF_]; rfl
  have hsz_ : ∀ d ∈ ([(168, []), (169, []), (170, [0, 1]), (171, [2]), (172, []), (173, [3, 4]), (174, []), (175, []), (176, [6, 7]), (177, [8]), (178, []), (179, [9, 10]), (180, [5, 11])] : List (Nat × List Nat)).map (·.1), d < F_.tmps.size := by rw [← hF_]; simp
  have HF_ := Lib.hid hF_; clear hF_
  have hmU_ : ∀ kU_, MonoT (KT w.heap.size [ge, gm]) (nthS [SC (.slice (some ⟨ge, 0, none⟩) 2 2), SC (.int .i64 (k : Int)), SC (.pointer (some ⟨ge, k, none⟩)), SC (.pointer (some ⟨ef k, 0, none⟩)), SC (.slice (some ⟨gb, 0, none⟩) 2 2), SC (.int .i64 0), SC (.slice (some ⟨gm, 0, none⟩) 2 2), SC (.int .i64 (k : Int)), SC (.pointer (some ⟨gm, k, none⟩)), SC (.pointer (some ⟨mf k, 0, none⟩)), SC (.slice (some ⟨gb, 0, none⟩) 2 2), SC (.int .i64 0), SC (.bool false)] kU_) := by
   intro kU_
   match kU_ with
   | 0 => exact (fun _ _ _ h _ => h)
   | 1 => exact (fun _ _ _ h _ => h)
   | 2 => exact (fun _ _ _ h _ => h)
   | 3 => exact (fun _ _ _ h _ => h)
   | 4 => exact (fun _ _ _ h _ => h)
   | 5 => exact (fun _ _ _ h _ => h)
   | 6 => exact (fun _ _ _ h _ => h)
   | 7 => exact (fun _ _ _ h _ => h)
   | 8 => exact (fun _ _ _ h _ => h)
   | 9 => exact (fun _ _ _ h _ => h)
   | 10 => exact (fun _ _ _ h _ => h)
   | 11 => exact (fun _ _ _ h _ => h)
   | 12 => exact (fun _ _ _ h _ => h)
   | kU_ + 13 => exact fun _ _ _ _ _ => trivial
  refine wp_flow_tabG2 (T := KT w.heap.size [ge, gm]) (KT.rel _ _) true hW_29 13 [(168, []), (169, []), (170, [0, 1]), (171, [2]), (172, []), (173, [3, 4]), (174, []), (175, []), (176, [6, 7]), (177, [8]), (178, []), (179, [9, 10]), (180, [5, 11])] [SC (.slice (some ⟨ge, 0, none⟩) 2 2), SC (.int .i64 (k : Int)), SC (.pointer (some ⟨ge, k, none⟩)), SC (.pointer (some ⟨ef k, 0, none⟩)), SC (.slice (some ⟨gb, 0, none⟩) 2 2), SC (.int .i64 0), SC (.slice (some ⟨gm, 0, none⟩) 2 2), SC (.int .i64 (k : Int)), SC (.pointer (some ⟨gm, k, none⟩)), SC (.pointer (some ⟨mf k, 0, none⟩)), SC (.slice (some ⟨gb, 0, none⟩) 2 2), SC (.int .i64 0), SC (.bool false)] [false, false, false, false, false, false, false, false, false, false, false, false, false] (by kernel_rfl) (by kernel_rfl) (by kernel_rfl) (by kernel_rfl) (by kernel_rfl) hsz_ 5 11 (fun w_ => Rn.Mem w.heap.size ge gm ef mf w_ ow u9 u10 (K.upd Sf k { Sf k with wait := (Sf k).wait ++ [[UInt8.ofNat i, UInt8.ofNat n]] }) Rf P T) (fun w_ => ∃ ow', Rn.Mem w.heap.size ge gm ef mf w_ ow' u9 u10 (K.upd Sf k { Sf k with wait := (Sf k).wait ++ [[UInt8.ofNat i, UInt8.ofNat n]] }) (K.upd Rf k { Rf k with sent := (Rf k).sent ++ [[UInt8.ofNat i, UInt8.ofNat n]] }) P T) (by kernel_rfl) (fun x_ y_ h hb => Rn.Mem.below h hb) (fun x_ y_ h hb => h.elim fun ow' h => ⟨ow', h.below hb⟩) ⟨SC.mono _, SC.mono _, SC.mono _, SC.mono _, SC.mono _, SC.mono _, SC.mono _, SC.mono _, SC.mono _, SC.mono _, SC.mono _, SC.mono _, SC.mono _, trivial⟩ hmU_ ?_ ?_
  ·intro kq hkq a wx hB hBb hBc hp hs
   have hBo : KT w.heap.size [ge, gm] w4 wx := dK hW_29 hB
   have hcase : kq = 0 ∨ kq = 1 ∨ kq = 2 ∨ kq = 3 ∨ kq = 4 ∨ kq = 5 ∨ kq = 6 ∨ kq = 7 ∨ kq = 8 ∨ kq = 9 ∨ kq = 10 ∨ kq = 11 ∨ kq = 12 := by omega
   rcases hcase with rfl | rfl | rfl | rfl | rfl | rfl | rfl | rfl | rfl | rfl | rfl | rfl | rfl
   ·clear hp
    exact ⟨_, rfl, .inr (.inr ⟨by decide, by decide, .inl ⟨wanted_none rfl, op_mv (s := SC _) rfl ((hs 7 rfl).trans ev7)⟩⟩)⟩
   ·clear hp
    exact ⟨_, rfl, .inr (.inr ⟨by decide, by decide, .inl ⟨wanted_none rfl, op_mv (s := SC _) rfl ((hs 13 rfl).trans ev13)⟩⟩)⟩
   ·obtain ⟨k0, k1, -⟩ := hp
    have e0 : a.eval (.tmp 168) = .slice (some ⟨ge, 0, none⟩) 2 2 := k0
    simp [Act.eval] at e0
    have e1 : a.eval (.tmp 169) = .int .i64 (k : Int) := k1
    simp [Act.eval] at e1
    exact ⟨_, rfl, .inr (.inr ⟨by decide, by decide, .inl ⟨wanted_none rfl, Does.val (by simp [execOp, Act.eval, e0, e1, go_sem, hk3, hk4]) rfl⟩⟩)⟩
   ·obtain ⟨k0, -⟩ := hp
    have e0 : a.eval (.tmp 170) = .pointer (some ⟨ge, k, none⟩) := k0
    simp [Act.eval] at e0
    exact ⟨_, rfl, .inr (.inr ⟨by decide, by decide, .inl ⟨wanted_none rfl, Does.val (by simp [execOp, Act.eval, e0, go_sem, HCE.out wx hBo]) rfl⟩⟩)⟩
   ·clear hp
    exact ⟨_, rfl, .inr (.inr ⟨by decide, by decide, .inl ⟨wanted_none rfl, op_mv (s := SC _) rfl ((hs 14 rfl).trans ev14)⟩⟩)⟩
   ·obtain ⟨k0, k1, -⟩ := hp
    have hBk : Below w4.heap.size w4 wx := dB hW_29 (hBb rfl)
    exact ⟨_, rfl, .inl ⟨rfl, wanted_none rfl, DoesT.ru (T := (fun x_ y_ => KT w.heap.size [ge, gm] x_ y_ ∧ (fun w_ => Rn.Mem w.heap.size ge gm ef mf w_ ow u9 u10 (K.upd Sf k { Sf k with wait := (Sf k).wait ++ [[UInt8.ofNat i, UInt8.ofNat n]] }) Rf P T) y_)) (f := 11) (call2 rfl (fun _ => by simp [go_sem]) k0 k1) (HSD.out wx hBk)⟩⟩
   ·clear hp
    exact ⟨_, rfl, .inr (.inr ⟨by decide, by decide, .inl ⟨wanted_none rfl, op_mv (s := SC _) rfl ((hs 8 rfl).trans ev8)⟩⟩)⟩
   ·clear hp
    exact ⟨_, rfl, .inr (.inr ⟨by decide, by decide, .inl ⟨wanted_none rfl, op_mv (s := SC _) rfl ((hs 13 rfl).trans ev13)⟩⟩)⟩
   ·obtain ⟨k0, k1, -⟩ := hp
    have e0 : a.eval (.tmp 174) = .slice (some ⟨gm, 0, none⟩) 2 2 := k0
    simp [Act.eval] at e0
    have e1 : a.eval (.tmp 175) = .int .i64 (k : Int) := k1
    simp [Act.eval] at e1
    exact ⟨_, rfl, .inr (.inr ⟨by decide, by decide, .inl ⟨wanted_none rfl, Does.val (by simp [execOp, Act.eval, e0, e1, go_sem, hk3, hk4]) rfl⟩⟩)⟩
   ·obtain ⟨k0, -⟩ := hp
    have e0 : a.eval (.tmp 176) = .pointer (some ⟨gm, k, none⟩) := k0
    simp [Act.eval] at e0
    exact ⟨_, rfl, .inr (.inr ⟨by decide, by decide, .inl ⟨wanted_none rfl, Does.val (by simp [execOp, Act.eval, e0, go_sem, HCM.out wx hBo]) rfl⟩⟩)⟩
   ·clear hp
    exact ⟨_, rfl, .inr (.inr ⟨by decide, by decide, .inl ⟨wanted_none rfl, op_mv (s := SC _) rfl ((hs 14 rfl).trans ev14)⟩⟩)⟩
   ·obtain ⟨k0, k1, -⟩ := hp
    have hS1_ := hBc rfl
    exact ⟨_, rfl, .inr (.inl ⟨rfl, wanted_none rfl, DoesT.ru (T := (fun x_ y_ => KT w.heap.size [ge, gm] x_ y_ ∧ (fun w_ => ∃ ow', Rn.Mem w.heap.size ge gm ef mf w_ ow' u9 u10 (K.upd Sf k { Sf k with wait := (Sf k).wait ++ [[UInt8.ofNat i, UInt8.ofNat n]] }) (K.upd Rf k { Rf k with sent := (Rf k).sent ++ [[UInt8.ofNat i, UInt8.ofNat n]] }) P T) y_)) (f := 12) (call2 rfl (fun _ => by simp [go_sem]) k0 k1) (HRS.out wx hBo hS1_)⟩)⟩
   ·obtain ⟨k0, k1, -⟩ := hp
    have e0 : a.eval (.tmp 173) = .int .i64 0 := k0
    simp [Act.eval] at e0
    have e1 : a.eval (.tmp 179) = .int .i64 0 := k1
    simp [Act.eval] at e1
    exact ⟨_, rfl, .inr (.inr ⟨by decide, by decide, .inl ⟨wanted_none rfl, Does.val (by simp [execOp, Act.eval, e0, e1, go_sem]) rfl⟩⟩)⟩
  ·intro val wx hB hS2_ hsp hdis
   have hBo : KT w.heap.size [ge, gm] w4 wx := dK hW_29 hB
   have e12 : val 12 = .bool false := hsp 12 (by omega)
   rw [← HF_.out]
   change wpList _ _ _ [] _ _
   simp only [puts_consT, puts_nilm, vals, List.map_cons, List.map_nil, Nat.zero_add, Nat.reduceAdd, e12, List.setIfInBounds_toArray, List.set_cons_succ, List.set_cons_zero]
   clear hsp hdis HF_ hsz_ hB hW_29 e12 ev7 ev8 ev13 ev14
   obtain ⟨ow', hM6⟩ := hS2_
   have HM6 := Lib.hid hM6
   have k4 := Lib.hid (k2.out.trans (hBo.below k2.out.size))
   clear hM6 hBo HCE HCM HSD HRS HM4 k2 hmU_
   go_wp2
   go_meet
   exact ⟨_, _, _, _, _, HM6, HI6, k4⟩
set_option maxRecDepth 100000 in
theorem rn_send1 {K_ : Act → World → Prop} {Q_ : Exit → Act → World → Prop} (w wq : World) (ge gm i n k h : Nat) (ef mf : Nat → Nat) (Sf : Nat → K.E) (Rf : Nat → Rn.E) (ow : Nat → List Nat) (P : List (List UInt8)) (T : List Nat) (key : Int) (u9 u10 : Value) (HK : Hid (0 ≤ key ∧ key < 18446744073709551616)) (hi : i < 60) (hnb : n < 1073741824) (hk2 : k < 2) (hk3 : (k : Int) < 2) (hk4 : (0 : Int) ≤ (k : Int)) (HM : Hid (Rn.Mem w.heap.size ge gm ef mf wq ow u9 u10 Sf Rf P T)) (HI : Hid (Rn.All i Sf Rf P T)) (HB : Hid (Below w.heap.size w wq)) (h0 : h = 1)
  (x0_ x2_ x3_ x4_ x5_ x6_ x14_ x15_ x16_ x17_ x18_ x19_ x20_ x21_ x22_ x23_ x24_ x25_ x26_ x27_ x28_ x29_ x30_ x31_ x32_ x33_ x34_ x35_ x36_ x37_ x38_ x39_ x40_ x41_ x42_ x43_ x44_ x45_ x46_ x47_ x48_ x49_ x50_ x51_ x52_ x53_ x54_ x55_ x56_ x57_ x58_ x59_ x60_ x61_ x62_ x63_ x64_ x65_ x67_ x68_ x69_ x70_ x71_ x72_ x73_ x74_ x75_ x76_ x77_ x78_ x79_ x80_ x81_ x82_ x83_ x84_ x85_ x86_ x87_ x88_ x89_ x90_ x91_ x92_ x93_ x94_ x95_ x96_ x97_ x98_ x99_ x100_ x101_ x102_ x103_ x104_ x105_ x106_ x107_ x108_ x109_ x110_ x111_ x112_ x113_ x114_ x115_ x116_ x117_ x118_ x119_ x120_ x121_ x122_ x123_ x124_ x125_ x126_ x127_ x128_ x129_ x130_ x131_ x132_ x133_ x134_ x135_ x136_ x137_ x138_ x139_ x140_ x141_ x142_ x143_ x144_ x145_ x146_ x147_ x148_ x149_ x150_ x151_ x152_ x153_ x154_ x155_ x156_ x157_ x158_ x159_ x160_ x161_ x162_ x163_ x164_ x165_ x166_ x167_ x168_ x169_ x170_ x171_ x172_ x173_ x174_ x175_ x176_ x177_ x178_ x179_ x180_ x181_ x182_ x183_ x184_ x185_ x186_ x187_ x188_ x189_ x190_ x191_ x192_ x193_ x194_ x195_ x196_ x197_ x198_ x199_ x200_ x201_ x202_ x203_ x204_ x205_ x206_ x207_ x208_ x209_ x210_ x211_ x212_ x213_ x214_ x215_ x216_ x217_ x218_ x219_ x220_ x221_ x222_ x223_ x224_ x225_ x226_ x227_ x228_ x229_ x230_ x231_ x232_ x233_ x234_ x235_ x236_ x237_ x238_ x239_ x240_ x241_ x242_ x243_ x244_ x245_ x246_ x247_ x248_ x249_ x250_ x251_ x252_ x253_ x254_ x255_ x256_ x257_ : Value) (hJ : ∀ (s6_ s9_ s10_ s14_ s15_ s16_ s17_ s18_ s19_ s20_ s21_ s22_ s23_ t44_ t45_ t46_ t47_ t48_ t49_ t50_ t51_ t52_ t53_ t54_ t55_ t56_ t57_ t58_ t59_ t60_ t61_ t62_ t63_ t64_ t65_ t66_ t67_ t68_ t69_ t70_ t71_ t72_ t73_ t74_ t75_ t76_ t77_ t78_ t79_ t80_ t81_ t82_ t83_ t84_ t85_ t86_ t87_ t88_ t89_ t90_ t91_ t92_ t93_ t94_ t95_ t96_ t97_ t98_ t99_ t100_ t101_ t102_ t103_ t104_ t105_ t106_ t107_ t108_ t109_ t110_ t111_ t112_ t113_ t114_ t115_ t116_ t117_ t118_ t119_ t120_ t121_ t122_ t123_ t124_ t125_ t126_ t127_ t128_ t129_ t130_ t131_ t132_ t133_ t134_ t135_ t136_ t137_ t138_ t139_ t140_ t141_ t142_ t143_ t144_ t145_ t146_ t147_ t148_ t149_ t150_ t151_ t152_ t153_ t154_ t155_ t156_ t157_ t158_ t159_ t160_ t161_ t162_ t163_ t164_ t165_ t166_ t167_ t168_ t169_ t170_ t171_ t172_ t173_ t174_ t175_ t176_ t177_ t178_ t179_ t180_ t181_ t182_ t183_ t184_ t185_ t186_ t187_ t188_ t189_ t190_ t191_ t192_ t193_ t194_ t195_ t196_ t197_ t198_ t199_ t200_ t201_ t202_ t203_ t204_ t205_ t206_ t207_ t208_ t209_ t210_ t211_ t212_ t213_ t214_ t215_ t216_ t217_ t218_ t219_ t220_ t221_ t222_ t223_ t224_ t225_ t226_ t227_ t228_ t229_ t230_ t231_ t232_ t233_ t234_ t235_ t236_ t237_ t238_ t239_ t240_ t241_ t242_ t243_ t244_ t245_ t246_ t247_ t248_ t249_ t250_ t251_ t252_ t253_ t254_ t255_ t256_ : Value) (wx : World), (∃ (Sf : Nat → K.E) (Rf : Nat → Rn.E) (ow : Nat → List Nat) (P : List (List UInt8)) (T : List Nat), Hid (Rn.Mem w.heap.size ge gm ef mf wx ow s9_ s10_ Sf Rf P T) ∧ Hid (Rn.All (i + 1) Sf Rf P T) ∧ Hid (Below w.heap.size w wx)) → K_ ⟨#[x0_, .int .u64 key, x2_, x3_, x4_, x5_, s6_, .slice (some ⟨ge, 0, none⟩) 2 2, .slice (some ⟨gm, 0, none⟩) 2 2, s9_, s10_, .int .i64 (i : Int), .int .i64 (n : Int), .int .i64 (k : Int), s14_, s15_, s16_, s17_, s18_, s19_, s20_, s21_, s22_, s23_, x24_, x25_, x26_, x27_, x28_, x29_, x30_, x31_, x32_, x33_, x34_, x35_, x36_, x37_, x38_, x39_, x40_, x41_, x42_, x43_, t44_, t45_, t46_, t47_, t48_, t49_, t50_, t51_, t52_, t53_, t54_, t55_, t56_, t57_, t58_, t59_, t60_, t61_, t62_, t63_, t64_, t65_, t66_, t67_, t68_, t69_, t70_, t71_, t72_, t73_, t74_, t75_, t76_, t77_, t78_, t79_, t80_, t81_, t82_, t83_, t84_, t85_, t86_, t87_, t88_, t89_, t90_, t91_, t92_, t93_, t94_, t95_, t96_, t97_, t98_, t99_, t100_, t101_, t102_, t103_, t104_, t105_, t106_, t107_, t108_, t109_, t110_, t111_, t112_, t113_, t114_, t115_, t116_, t117_, t118_, t119_, t120_, t121_, t122_, t123_, t124_, t125_, t126_, t127_, t128_, t129_, t130_, t131_, t132_, t133_, t134_, t135_, t136_, t137_, t138_, t139_, t140_, t141_, t142_, t143_, t144_, t145_, t146_, t147_, t148_, t149_, t150_, t151_, t152_, t153_, t154_, t155_, t156_, t157_, t158_, t159_, t160_, t161_, t162_, t163_, t164_, t165_, t166_, t167_, t168_, t169_, t170_, t171_, t172_, t173_, t174_, t175_, t176_, t177_, t178_, t179_, t180_, t181_, t182_, t183_, t184_, t185_, t186_, t187_, t188_, t189_, t190_, t191_, t192_, t193_, t194_, t195_, t196_, t197_, t198_, t199_, t200_, t201_, t202_, t203_, t204_, t205_, t206_, t207_, t208_, t209_, t210_, t211_, t212_, t213_, t214_, t215_, t216_, t217_, t218_, t219_, t220_, t221_, t222_, t223_, t224_, t225_, t226_, t227_, t228_, t229_, t230_, t231_, t232_, t233_, t234_, t235_, t236_, t237_, t238_, t239_, t240_, t241_, t242_, t243_, t244_, t245_, t246_, t247_, t248_, t249_, t250_, t251_, t252_, t253_, t254_, t255_, t256_, x257_], []⟩ wx) :
  Code.wp Try.prog ((blkIn 2 ((Try.f3.body).getD .skip)).getD .skip) (Exit.then K_ Q_) ⟨#[x0_, .int .u64 key, x2_, x3_, x4_, x5_, x6_, .slice (some ⟨ge, 0, none⟩) 2 2, .slice (some ⟨gm, 0, none⟩) 2 2, u9, u10, .int .i64 (i : Int), .int .i64 (n : Int), .int .i64 (k : Int), x14_, x15_, x16_, x17_, x18_, x19_, x20_, x21_, x22_, x23_, x24_, x25_, x26_, x27_, x28_, x29_, x30_, x31_, x32_, x33_, x34_, x35_, x36_, x37_, x38_, x39_, x40_, x41_, x42_, x43_, x44_, x45_, x46_, x47_, x48_, x49_, x50_, x51_, x52_, x53_, x54_, x55_, x56_, x57_, x58_, x59_, x60_, x61_, x62_, x63_, x64_, x65_, .int .i64 (h : Int), x67_, x68_, x69_, x70_, x71_, x72_, x73_, x74_, x75_, x76_, x77_, x78_, x79_, x80_, x81_, x82_, x83_, x84_, x85_, x86_, x87_, x88_, x89_, x90_, x91_, x92_, x93_, x94_, x95_, x96_, x97_, x98_, x99_, x100_, x101_, x102_, x103_, x104_, x105_, x106_, x107_, x108_, x109_, x110_, x111_, x112_, x113_, x114_, x115_, x116_, x117_, x118_, x119_, x120_, x121_, x122_, x123_, x124_, x125_, x126_, x127_, x128_, x129_, x130_, x131_, x132_, x133_, x134_, x135_, x136_, x137_, x138_, x139_, x140_, x141_, x142_, x143_, x144_, x145_, x146_, x147_, x148_, x149_, x150_, x151_, x152_, x153_, x154_, x155_, x156_, x157_, x158_, x159_, x160_, x161_, x162_, x163_, x164_, x165_, x166_, x167_, x168_, x169_, x170_, x171_, x172_, x173_, x174_, x175_, x176_, x177_, x178_, x179_, x180_, x181_, x182_, x183_, x184_, x185_, x186_, x187_, x188_, x189_, x190_, x191_, x192_, x193_, x194_, x195_, x196_, x197_, x198_, x199_, x200_, x201_, x202_, x203_, x204_, x205_, x206_, x207_, x208_, x209_, x210_, x211_, x212_, x213_, x214_, x215_, x216_, x217_, x218_, x219_, x220_, x221_, x222_, x223_, x224_, x225_, x226_, x227_, x228_, x229_, x230_, x231_, x232_, x233_, x234_, x235_, x236_, x237_, x238_, x239_, x240_, x241_, x242_, x243_, x244_, x245_, x246_, x247_, x248_, x249_, x250_, x251_, x252_, x253_, x254_, x255_, x256_, x257_], []⟩ wq := by
 have HJ_ := Lib.hid hJ; clear hJ
 have hi4 : (0 : Int) ≤ (i : Int) := by omega
 have hi5 : (i : Int) < 60 := by omega
 conv => arg 2; whnf
 conv => arg 4; dsimp only
 go_cut [9, 10, 14, 15, 16, 17, 18, 19, 20, 21, 22, 23] from 44 to 256 (fun s9 s10 s14 s15 s16 s17 s18 s19 s20 s21 s22 s23 wx => ∃ (Sf : Nat → K.E) (Rf : Nat → Rn.E) (ow : Nat → List Nat) (P : List (List UInt8)) (T : List Nat), Hid (Rn.Mem w.heap.size ge gm ef mf wx ow s9 s10 Sf Rf P T) ∧ Hid (Rn.All (i + 1) Sf Rf P T) ∧ Hid (Below w.heap.size w wx))
 case rest =>
  exact HJ_.out _ _ _ _ _ _ _ _ _ _ _ _ _ _ _ _ _ _ _ _ _ _ _ _ _ _ _ _ _ _ _ _ _ _ _ _ _ _ _ _ _ _ _ _ _ _ _ _ _ _ _ _ _ _ _ _ _ _ _ _ _ _ _ _ _ _ _ _ _ _ _ _ _ _ _ _ _ _ _ _ _ _ _ _ _ _ _ _ _ _ _ _ _ _ _ _ _ _ _ _ _ _ _ _ _ _ _ _ _ _ _ _ _ _ _ _ _ _ _ _ _ _ _ _ _ _ _ _ _ _ _ _ _ _ _ _ _ _ _ _ _ _ _ _ _ _ _ _ _ _ _ _ _ _ _ _ _ _ _ _ _ _ _ _ _ _ _ _ _ _ _ _ _ _ _ _ _ _ _ _ _ _ _ _ _ _ _ _ _ _ _ _ _ _ _ _ _ _ _ _ _ _ _ _ _ _ _ _ _ _ _ _ _ _ _ _ _ _ _ _ _ _ _ _ _ _ _ hcut
 case first =>
  clear HJ_
  subst h0
  go_upto_region 29 with fail
  skip
  generalize hW4 : wq.alloc (.cells _ 5) = w4
  have HBV : Hid (BV w4 (.slice (some ⟨wq.heap.size, 0, none⟩) 2 2) [UInt8.ofNat i, UInt8.ofNat n]) := Lib.hid (by rw [← hW4]; exact Rn.bv2 wq (UInt8.ofNat i) (UInt8.ofNat n) (congrArg (Value.int .u8) (show (i : Int) = ((UInt8.ofNat i).toNat : Int) by rw [UInt8.toNat_ofNat']; omega)) (by first | rfl | exact congrArg (Value.int .u8) (Rn.byte n)))
  obtain ⟨-, k3⟩ := box1 hW4
  obtain ⟨gb, hgb⟩ : ∃ g, g = wq.heap.size := ⟨_, rfl⟩
  rw [← hgb] at HBV ⊢
  have HM4 := Lib.hid (HM.out.below k3)
  have k2 := Lib.hid (Blw HB.out k3)
  have HI6 := Lib.hid (HI.out.send hk2 (b := [UInt8.ofNat i, UInt8.ofNat n]) rfl)
  have HCE : Hid (∀ wx, KT w.heap.size [ge, gm] w4 wx → wx.cell? ⟨ge, k, none⟩ = some (.pointer (some ⟨ef k, 0, none⟩))) := Lib.hid (fun wx h => (h.bx (by simp) HM4.out.xe).cell (two_get (f := pv ef) hk2))
  have HCM : Hid (∀ wx, KT w.heap.size [ge, gm] w4 wx → wx.cell? ⟨gm, k, none⟩ = some (.pointer (some ⟨mf k, 0, none⟩))) := Lib.hid (fun wx h => (h.bx (by simp) HM4.out.xm).cell (two_get (f := pv mf) hk2))
  have HSD : Hid (∀ wx, Below w4.heap.size w4 wx → Calls Try.prog 11 #[.pointer (some ⟨ef k, 0, none⟩), .slice (some ⟨gb, 0, none⟩) 2 2] wx fun e w' => ∃ v, e = .returned v ∧ (KT w.heap.size [ge, gm] wx w' ∧ Rn.Mem w.heap.size ge gm ef mf w' ow u9 u10 (K.upd Sf k { Sf k with wait := (Sf k).wait ++ [[UInt8.ofNat i, UInt8.ofNat n]] }) Rf P T) ∧ SC (.int .i64 0) w' v) := Lib.hid (fun wx hb =>
   (m_send (HM4.out.below hb) hk2 (by have := hb.size; have := k2.out.size; omega) (HBV.out.below hb) (by simp) (by have h1 := HI.out.wait hk2; have h2 := (HI.out.i k hk2).s.1; have h3 := (HI.out.i k hk2).a; omega)).mono fun e w' ⟨h1, h2, h3⟩ => ⟨_, h1, ⟨h2, h3⟩, rfl⟩)
  have HRS : Hid (∀ wx, KT w.heap.size [ge, gm] w4 wx → Rn.Mem w.heap.size ge gm ef mf wx ow u9 u10 (K.upd Sf k { Sf k with wait := (Sf k).wait ++ [[UInt8.ofNat i, UInt8.ofNat n]] }) Rf P T → Calls Try.prog 12 #[.pointer (some ⟨mf k, 0, none⟩), .slice (some ⟨gb, 0, none⟩) 2 2] wx fun e w' => ∃ v, e = .returned v ∧ (KT w.heap.size [ge, gm] wx w' ∧ ∃ ow', Rn.Mem w.heap.size ge gm ef mf w' ow' u9 u10 (K.upd Sf k { Sf k with wait := (Sf k).wait ++ [[UInt8.ofNat i, UInt8.ofNat n]] }) (K.upd Rf k { Rf k with sent := (Rf k).sent ++ [[UInt8.ofNat i, UInt8.ofNat n]] }) P T) ∧ SC (.int .i64 0) w' v) := Lib.hid (fun wx ht hm =>
   (m_rsend hm hk2 (by have := ht.size; have := k2.out.size; omega) (HBV.out.kb ht.kb) (by simp) (HI.out.i k hk2) (by omega)).mono fun e w' ⟨h1, h2, h3⟩ => ⟨_, h1, ⟨h2, h3⟩, rfl⟩)
  clear hW4 k3 hgb HM HB HBV HI
  generalize hW_29 : w4.drew = W_29
  refine gen_act ?_
  intro F_ hF_
  have ev7 : F_.eval (.tmp 7) = .slice (some ⟨ge, 0, none⟩) 2 2 := by rw [← hF_]; rfl
  have ev8 : F_.eval (.tmp 8) = .slice (some ⟨gm, 0, none⟩) 2 2 := by rw [← hF_]; rfl
  have ev13 : F_.eval (.tmp 13) = .int .i64 (k : Int) := by rw [← hF_]; rfl
  have ev14 : F_.eval (.tmp 14) = .slice (some ⟨gb, 0, none⟩) 2 2 := by rw [← hF_]; rfl
  have hsz_ : ∀ d ∈ ([(168, []), (169, []), (170, [0, 1]), (171, [2]), (172, []), (173, [3, 4]), (174, []), (175, []), (176, [6, 7]), (177, [8]), (178, []), (179, [9, 10]), (180, [5, 11])] : List (Nat × List Nat)).map (·.1), d < F_.tmps.size := by rw [← hF_]; simp
  have HF_ := Lib.hid hF_; clear hF_
  have hmU_ : ∀ kU_, MonoT (KT w.heap.size [ge, gm]) (nthS [SC (.slice (some ⟨ge, 0, none⟩) 2 2), SC (.int .i64 (k : Int)), SC (.pointer (some ⟨ge, k, none⟩)), SC (.pointer (some ⟨ef k, 0, none⟩)), SC (.slice (some ⟨gb, 0, none⟩) 2 2), SC (.int .i64 0), SC (.slice (some ⟨gm, 0, none⟩) 2 2), SC (.int .i64 (k : Int)), SC (.pointer (some ⟨gm, k, none⟩)), SC (.pointer (some ⟨mf k, 0, none⟩)), SC (.slice (some ⟨gb, 0, none⟩) 2 2), SC (.int .i64 0), SC (.bool false)] kU_) := by
   intro kU_
   match kU_ with
   | 0 => exact (fun _ _ _ h _ => h)
   | 1 => exact (fun _ _ _ h _ => h)
   | 2 => exact (fun _ _ _ h _ => h)
   | 3 => exact (fun _ _ _ h _ => h)
   | 4 => exact (fun _ _ _ h _ => h)
   | 5 => exact (fun _ _ _ h _ => h)
   | 6 => exact (fun _ _ _ h _ => h)
   | 7 => exact (fun _ _ _ h _ => h)
   | 8 => exact (fun _ _ _ h _ => h)
   | 9 => exact (fun _ _ _ h _ => h)
   | 10 => exact (fun _ _ _ h _ => h)
   | 11 => exact (fun _ _ _ h _ => h)
   | 12 => exact (fun _ _ _ h _ => h)
   | kU_ + 13 => exact fun _ _ _ _ _ => trivial
  refine wp_flow_tabG2 (T := KT w.heap.size [ge, gm]) (KT.rel _ _) true hW_29 13 [(168, []), (169, []), (170, [0, 1]), (171, [2]), (172, []), (173, [3, 4]), (174, []), (175, []), (176, [6, 7]), (177, [8]), (178, []), (179, [9, 10]), (180, [5, 11])] [SC (.slice (some ⟨ge, 0, none⟩) 2 2), SC (.int .i64 (k : Int)), SC (.pointer (some ⟨ge, k, none⟩)), SC (.pointer (some ⟨ef k, 0, none⟩)), SC (.slice (some ⟨gb, 0, none⟩) 2 2), SC (.int .i64 0), SC (.slice (some ⟨gm, 0, none⟩) 2 2), SC (.int .i64 (k : Int)), SC (.pointer (some ⟨gm, k, none⟩)), SC (.pointer (some ⟨mf k, 0, none⟩)), SC (.slice (some ⟨gb, 0, none⟩) 2 2), SC (.int .i64 0), SC (.bool false)] [false, false, false, false, false, false, false, false, false, false, false, false, false] (by kernel_rfl) (by kernel_rfl) (by kernel_rfl) (by kernel_rfl) (by kernel_rfl) hsz_ 5 11 (fun w_ => Rn.Mem w.heap.size ge gm ef mf w_ ow u9 u10 (K.upd Sf k { Sf k with wait := (Sf k).wait ++ [[UInt8.ofNat i, UInt8.ofNat n]] }) Rf P T) (fun w_ => ∃ ow', Rn.Mem w.heap.size ge gm ef mf w_ ow' u9 u10 (K.upd Sf k { Sf k with wait := (Sf k).wait ++ [[UInt8.ofNat i, UInt8.ofNat n]] }) (K.upd Rf k { Rf k with sent := (Rf k).sent ++ [[UInt8.ofNat i, UInt8.ofNat n]] }) P T) (by kernel_rfl) (fun x_ y_ h hb => Rn.Mem.below h hb) (fun x_ y_ h hb => h.elim fun ow' h => ⟨ow', h.below hb⟩) ⟨SC.mono _, SC.mono _, SC.mono _, SC.mono _, SC.mono _, SC.mono _, SC.mono _, SC.mono _, SC.mono _, SC.mono _, SC.mono _, SC.mono _, SC.mono _, trivial⟩ hmU_ ?_ ?_
  ·intro kq hkq a wx hB hBb hBc hp hs
   have hBo : KT w.heap.size [ge, gm] w4 wx := dK hW_29 hB
   have hcase : kq = 0 ∨ kq = 1 ∨ kq = 2 ∨ kq = 3 ∨ kq = 4 ∨ kq = 5 ∨ kq = 6 ∨ kq = 7 ∨ kq = 8 ∨ kq = 9 ∨ kq = 10 ∨ kq = 11 ∨ kq = 12 := by omega
   rcases hcase with rfl | rfl | rfl | rfl | rfl | rfl | rfl | rfl | rfl | rfl | rfl | rfl | rfl
   ·clear hp
    exact ⟨_, rfl, .inr (.inr ⟨by decide, by decide, .inl ⟨wanted_none rfl, op_mv (s := SC _) rfl ((hs 7 rfl).trans ev7)⟩⟩)⟩
   ·clear hp
    exact ⟨_, rfl, .inr (.inr ⟨by decide, by decide, .inl ⟨wanted_none rfl, op_mv (s := SC _) rfl ((hs 13 rfl).trans ev13)⟩⟩)⟩
   ·obtain ⟨k0, k1, -⟩ := hp
    have e0 : a.eval (.tmp 168) = .slice (some ⟨ge, 0, none⟩) 2 2 := k0
    simp [Act.eval] at e0
    have e1 : a.eval (.tmp 169) = .int .i64 (k : Int) := k1
    simp [Act.eval] at e1
    exact ⟨_, rfl, .inr (.inr ⟨by decide, by decide, .inl ⟨wanted_none rfl, Does.val (by simp [execOp, Act.eval, e0, e1, go_sem, hk3, hk4]) rfl⟩⟩)⟩
   ·obtain ⟨k0, -⟩ := hp
    have e0 : a.eval (.tmp 170) = .pointer (some ⟨ge, k, none⟩) := k0
    simp [Act.eval] at e0
    exact ⟨_, rfl, .inr (.inr ⟨by decide, by decide, .inl ⟨wanted_none rfl, Does.val (by simp [execOp, Act.eval, e0, go_sem, HCE.out wx hBo]) rfl⟩⟩)⟩
   ·clear hp
    exact ⟨_, rfl, .inr (.inr ⟨by decide, by decide, .inl ⟨wanted_none rfl, op_mv (s := SC _) rfl ((hs 14 rfl).trans ev14)⟩⟩)⟩
   ·obtain ⟨k0, k1, -⟩ := hp
    have hBk : Below w4.heap.size w4 wx := dB hW_29 (hBb rfl)
    exact ⟨_, rfl, .inl ⟨rfl, wanted_none rfl, DoesT.ru (T := (fun x_ y_ => KT w.heap.size [ge, gm] x_ y_ ∧ (fun w_ => Rn.Mem w.heap.size ge gm ef mf w_ ow u9 u10 (K.upd Sf k { Sf k with wait := (Sf k).wait ++ [[UInt8.ofNat i, UInt8.ofNat n]] }) Rf P T) y_)) (f := 11) (call2 rfl (fun _ => by simp [go_sem]) k0 k1) (HSD.out wx hBk)⟩⟩
   ·clear hp
    exact ⟨_, rfl, .inr (.inr ⟨by decide, by decide, .inl ⟨wanted_none rfl, op_mv (s := SC _) rfl ((hs 8 rfl).trans ev8)⟩⟩)⟩
   ·clear hp
    exact ⟨_, rfl, .inr (.inr ⟨by decide, by decide, .inl ⟨wanted_none rfl, op_mv (s := SC _) rfl ((hs 13 rfl).trans ev13)⟩⟩)⟩
   ·obtain ⟨k0, k1, -⟩ := hp
    have e0 : a.eval (.tmp 174) = .slice (some ⟨gm, 0, none⟩) 2 2 := k0
    simp [Act.eval] at e0
    have e1 : a.eval (.tmp 175) = .int .i64 (k : Int) := k1
    simp [Act.eval] at e1
    exact ⟨_, rfl, .inr (.inr ⟨by decide, by decide, .inl ⟨wanted_none rfl, Does.val (by simp [execOp, Act.eval, e0, e1, go_sem, hk3, hk4]) rfl⟩⟩)⟩
   ·obtain ⟨k0, -⟩ := hp
    have e0 : a.eval (.tmp 176) = .pointer (some ⟨gm, k, none⟩) := k0
    simp [Act.eval] at e0
    exact ⟨_, rfl, .inr (.inr ⟨by decide, by decide, .inl ⟨wanted_none rfl, Does.val (by simp [execOp, Act.eval, e0, go_sem, HCM.out wx hBo]) rfl⟩⟩)⟩
   ·clear hp
    exact ⟨_, rfl, .inr (.inr ⟨by decide, by decide, .inl ⟨wanted_none rfl, op_mv (s := SC _) rfl ((hs 14 rfl).trans ev14)⟩⟩)⟩
   ·obtain ⟨k0, k1, -⟩ := hp
    have hS1_ := hBc rfl
    exact ⟨_, rfl, .inr (.inl ⟨rfl, wanted_none rfl, DoesT.ru (T := (fun x_ y_ => KT w.heap.size [ge, gm] x_ y_ ∧ (fun w_ => ∃ ow', Rn.Mem w.heap.size ge gm ef mf w_ ow' u9 u10 (K.upd Sf k { Sf k with wait := (Sf k).wait ++ [[UInt8.ofNat i, UInt8.ofNat n]] }) (K.upd Rf k { Rf k with sent := (Rf k).sent ++ [[UInt8.ofNat i, UInt8.ofNat n]] }) P T) y_)) (f := 12) (call2 rfl (fun _ => by simp [go_sem]) k0 k1) (HRS.out wx hBo hS1_)⟩)⟩
   ·obtain ⟨k0, k1, -⟩ := hp
    have e0 : a.eval (.tmp 173) = .int .i64 0 := k0
    simp [Act.eval] at e0
    have e1 : a.eval (.tmp 179) = .int .i64 0 := k1
    simp [Act.eval] at e1
    exact ⟨_, rfl, .inr (.inr ⟨by decide, by decide, .inl ⟨wanted_none rfl, Does.val (by simp [execOp, Act.eval, e0, e1, go_sem]) rfl⟩⟩)⟩
  ·intro val wx hB hS2_ hsp hdis
   have hBo : KT w.heap.size [ge, gm] w4 wx := dK hW_29 hB
   have e12 : val 12 = .bool false := hsp 12 (by omega)
   rw [← HF_.out]
   change wpList _ _ _ [] _ _
   simp only [puts_consT, puts_nilm, vals, List.map_cons, List.map_nil, Nat.zero_add, Nat.reduceAdd, e12, List.setIfInBounds_toArray, List.set_cons_succ, List.set_cons_zero]
   clear hsp hdis HF_ hsz_ hB hW_29 e12 ev7 ev8 ev13 ev14
   obtain ⟨ow', hM6⟩ := hS2_
   have HM6 := Lib.hid hM6
   have k4 := Lib.hid (k2.out.trans (hBo.below k2.out.size))
   clear hM6 hBo HCE HCM HSD HRS HM4 k2 hmU_
   go_wp2
   go_meet
   exact ⟨_, _, _, _, _, HM6, HI6, k4⟩
set_option maxRecDepth 100000 in
theorem rn_out2 {K_ : Act → World → Prop} {Q_ : Exit → Act → World → Prop} (w wq : World) (ge gm i n k h : Nat) (ef mf : Nat → Nat) (Sf : Nat → K.E) (Rf : Nat → Rn.E) (ow : Nat → List Nat) (P : List (List UInt8)) (T : List Nat) (key : Int) (u9 u10 : Value) (HK : Hid (0 ≤ key ∧ key < 18446744073709551616)) (hi : i < 60) (hnb : n < 1073741824) (hk2 : k < 2) (hk3 : (k : Int) < 2) (hk4 : (0 : Int) ≤ (k : Int)) (HM : Hid (Rn.Mem w.heap.size ge gm ef mf wq ow u9 u10 Sf Rf P T)) (HI : Hid (Rn.All i Sf Rf P T)) (HB : Hid (Below w.heap.size w wq)) (h0 : h = 2)
  (x0_ x2_ x3_ x4_ x5_ x6_ x14_ x15_ x16_ x17_ x18_ x19_ x20_ x21_ x22_ x23_ x24_ x25_ x26_ x27_ x28_ x29_ x30_ x31_ x32_ x33_ x34_ x35_ x36_ x37_ x38_ x39_ x40_ x41_ x42_ x43_ x44_ x45_ x46_ x47_ x48_ x49_ x50_ x51_ x52_ x53_ x54_ x55_ x56_ x57_ x58_ x59_ x60_ x61_ x62_ x63_ x64_ x65_ x67_ x68_ x69_ x70_ x71_ x72_ x73_ x74_ x75_ x76_ x77_ x78_ x79_ x80_ x81_ x82_ x83_ x84_ x85_ x86_ x87_ x88_ x89_ x90_ x91_ x92_ x93_ x94_ x95_ x96_ x97_ x98_ x99_ x100_ x101_ x102_ x103_ x104_ x105_ x106_ x107_ x108_ x109_ x110_ x111_ x112_ x113_ x114_ x115_ x116_ x117_ x118_ x119_ x120_ x121_ x122_ x123_ x124_ x125_ x126_ x127_ x128_ x129_ x130_ x131_ x132_ x133_ x134_ x135_ x136_ x137_ x138_ x139_ x140_ x141_ x142_ x143_ x144_ x145_ x146_ x147_ x148_ x149_ x150_ x151_ x152_ x153_ x154_ x155_ x156_ x157_ x158_ x159_ x160_ x161_ x162_ x163_ x164_ x165_ x166_ x167_ x168_ x169_ x170_ x171_ x172_ x173_ x174_ x175_ x176_ x177_ x178_ x179_ x180_ x181_ x182_ x183_ x184_ x185_ x186_ x187_ x188_ x189_ x190_ x191_ x192_ x193_ x194_ x195_ x196_ x197_ x198_ x199_ x200_ x201_ x202_ x203_ x204_ x205_ x206_ x207_ x208_ x209_ x210_ x211_ x212_ x213_ x214_ x215_ x216_ x217_ x218_ x219_ x220_ x221_ x222_ x223_ x224_ x225_ x226_ x227_ x228_ x229_ x230_ x231_ x232_ x233_ x234_ x235_ x236_ x237_ x238_ x239_ x240_ x241_ x242_ x243_ x244_ x245_ x246_ x247_ x248_ x249_ x250_ x251_ x252_ x253_ x254_ x255_ x256_ x257_ : Value) (hJ : ∀ (s6_ s9_ s10_ s14_ s15_ s16_ s17_ s18_ s19_ s20_ s21_ s22_ s23_ t44_ t45_ t46_ t47_ t48_ t49_ t50_ t51_ t52_ t53_ t54_ t55_ t56_ t57_ t58_ t59_ t60_ t61_ t62_ t63_ t64_ t65_ t66_ t67_ t68_ t69_ t70_ t71_ t72_ t73_ t74_ t75_ t76_ t77_ t78_ t79_ t80_ t81_ t82_ t83_ t84_ t85_ t86_ t87_ t88_ t89_ t90_ t91_ t92_ t93_ t94_ t95_ t96_ t97_ t98_ t99_ t100_ t101_ t102_ t103_ t104_ t105_ t106_ t107_ t108_ t109_ t110_ t111_ t112_ t113_ t114_ t115_ t116_ t117_ t118_ t119_ t120_ t121_ t122_ t123_ t124_ t125_ t126_ t127_ t128_ t129_ t130_ t131_ t132_ t133_ t134_ t135_ t136_ t137_ t138_ t139_ t140_ t141_ t142_ t143_ t144_ t145_ t146_ t147_ t148_ t149_ t150_ t151_ t152_ t153_ t154_ t155_ t156_ t157_ t158_ t159_ t160_ t161_ t162_ t163_ t164_ t165_ t166_ t167_ t168_ t169_ t170_ t171_ t172_ t173_ t174_ t175_ t176_ t177_ t178_ t179_ t180_ t181_ t182_ t183_ t184_ t185_ t186_ t187_ t188_ t189_ t190_ t191_ t192_ t193_ t194_ t195_ t196_ t197_ t198_ t199_ t200_ t201_ t202_ t203_ t204_ t205_ t206_ t207_ t208_ t209_ t210_ t211_ t212_ t213_ t214_ t215_ t216_ t217_ t218_ t219_ t220_ t221_ t222_ t223_ t224_ t225_ t226_ t227_ t228_ t229_ t230_ t231_ t232_ t233_ t234_ t235_ t236_ t237_ t238_ t239_ t240_ t241_ t242_ t243_ t244_ t245_ t246_ t247_ t248_ t249_ t250_ t251_ t252_ t253_ t254_ t255_ t256_ : Value) (wx : World), (∃ (Sf : Nat → K.E) (Rf : Nat → Rn.E) (ow : Nat → List Nat) (P : List (List UInt8)) (T : List Nat), Hid (Rn.Mem w.heap.size ge gm ef mf wx ow s9_ s10_ Sf Rf P T) ∧ Hid (Rn.All (i + 1) Sf Rf P T) ∧ Hid (Below w.heap.size w wx)) → K_ ⟨#[x0_, .int .u64 key, x2_, x3_, x4_, x5_, s6_, .slice (some ⟨ge, 0, none⟩) 2 2, .slice (some ⟨gm, 0, none⟩) 2 2, s9_, s10_, .int .i64 (i : Int), .int .i64 (n : Int), .int .i64 (k : Int), s14_, s15_, s16_, s17_, s18_, s19_, s20_, s21_, s22_, s23_, x24_, x25_, x26_, x27_, x28_, x29_, x30_, x31_, x32_, x33_, x34_, x35_, x36_, x37_, x38_, x39_, x40_, x41_, x42_, x43_, t44_, t45_, t46_, t47_, t48_, t49_, t50_, t51_, t52_, t53_, t54_, t55_, t56_, t57_, t58_, t59_, t60_, t61_, t62_, t63_, t64_, t65_, t66_, t67_, t68_, t69_, t70_, t71_, t72_, t73_, t74_, t75_, t76_, t77_, t78_, t79_, t80_, t81_, t82_, t83_, t84_, t85_, t86_, t87_, t88_, t89_, t90_, t91_, t92_, t93_, t94_, t95_, t96_, t97_, t98_, t99_, t100_, t101_, t102_, t103_, t104_, t105_, t106_, t107_, t108_, t109_, t110_, t111_, t112_, t113_, t114_, t115_, t116_, t117_, t118_, t119_, t120_, t121_, t122_, t123_, t124_, t125_, t126_, t127_, t128_, t129_, t130_, t131_, t132_, t133_, t134_, t135_, t136_, t137_, t138_, t139_, t140_, t141_, t142_, t143_, t144_, t145_, t146_, t147_, t148_, t149_, t150_, t151_, t152_, t153_, t154_, t155_, t156_, t157_, t158_, t159_, t160_, t161_, t162_, t163_, t164_, t165_, t166_, t167_, t168_, t169_, t170_, t171_, t172_, t173_, t174_, t175_, t176_, t177_, t178_, t179_, t180_, t181_, t182_, t183_, t184_, t185_, t186_, t187_, t188_, t189_, t190_, t191_, t192_, t193_, t194_, t195_, t196_, t197_, t198_, t199_, t200_, t201_, t202_, t203_, t204_, t205_, t206_, t207_, t208_, t209_, t210_, t211_, t212_, t213_, t214_, t215_, t216_, t217_, t218_, t219_, t220_, t221_, t222_, t223_, t224_, t225_, t226_, t227_, t228_, t229_, t230_, t231_, t232_, t233_, t234_, t235_, t236_, t237_, t238_, t239_, t240_, t241_, t242_, t243_, t244_, t245_, t246_, t247_, t248_, t249_, t250_, t251_, t252_, t253_, t254_, t255_, t256_, x257_], []⟩ wx) :
  Code.wp Try.prog ((blkIn 2 ((Try.f3.body).getD .skip)).getD .skip) (Exit.then K_ Q_) ⟨#[x0_, .int .u64 key, x2_, x3_, x4_, x5_, x6_, .slice (some ⟨ge, 0, none⟩) 2 2, .slice (some ⟨gm, 0, none⟩) 2 2, u9, u10, .int .i64 (i : Int), .int .i64 (n : Int), .int .i64 (k : Int), x14_, x15_, x16_, x17_, x18_, x19_, x20_, x21_, x22_, x23_, x24_, x25_, x26_, x27_, x28_, x29_, x30_, x31_, x32_, x33_, x34_, x35_, x36_, x37_, x38_, x39_, x40_, x41_, x42_, x43_, x44_, x45_, x46_, x47_, x48_, x49_, x50_, x51_, x52_, x53_, x54_, x55_, x56_, x57_, x58_, x59_, x60_, x61_, x62_, x63_, x64_, x65_, .int .i64 (h : Int), x67_, x68_, x69_, x70_, x71_, x72_, x73_, x74_, x75_, x76_, x77_, x78_, x79_, x80_, x81_, x82_, x83_, x84_, x85_, x86_, x87_, x88_, x89_, x90_, x91_, x92_, x93_, x94_, x95_, x96_, x97_, x98_, x99_, x100_, x101_, x102_, x103_, x104_, x105_, x106_, x107_, x108_, x109_, x110_, x111_, x112_, x113_, x114_, x115_, x116_, x117_, x118_, x119_, x120_, x121_, x122_, x123_, x124_, x125_, x126_, x127_, x128_, x129_, x130_, x131_, x132_, x133_, x134_, x135_, x136_, x137_, x138_, x139_, x140_, x141_, x142_, x143_, x144_, x145_, x146_, x147_, x148_, x149_, x150_, x151_, x152_, x153_, x154_, x155_, x156_, x157_, x158_, x159_, x160_, x161_, x162_, x163_, x164_, x165_, x166_, x167_, x168_, x169_, x170_, x171_, x172_, x173_, x174_, x175_, x176_, x177_, x178_, x179_, x180_, x181_, x182_, x183_, x184_, x185_, x186_, x187_, x188_, x189_, x190_, x191_, x192_, x193_, x194_, x195_, x196_, x197_, x198_, x199_, x200_, x201_, x202_, x203_, x204_, x205_, x206_, x207_, x208_, x209_, x210_, x211_, x212_, x213_, x214_, x215_, x216_, x217_, x218_, x219_, x220_, x221_, x222_, x223_, x224_, x225_, x226_, x227_, x228_, x229_, x230_, x231_, x232_, x233_, x234_, x235_, x236_, x237_, x238_, x239_, x240_, x241_, x242_, x243_, x244_, x245_, x246_, x247_, x248_, x249_, x250_, x251_, x252_, x253_, x254_, x255_, x256_, x257_], []⟩ wq := by
 have HJ_ := Lib.hid hJ; clear hJ
 have hi4 : (0 : Int) ≤ (i : Int) := by omega
 have hi5 : (i : Int) < 60 := by omega
 conv => arg 2; whnf
 conv => arg 4; dsimp only
 go_cut [9, 10, 14, 15, 16, 17, 18, 19, 20, 21, 22, 23] from 44 to 256 (fun s9 s10 s14 s15 s16 s17 s18 s19 s20 s21 s22 s23 wx => ∃ (Sf : Nat → K.E) (Rf : Nat → Rn.E) (ow : Nat → List Nat) (P : List (List UInt8)) (T : List Nat), Hid (Rn.Mem w.heap.size ge gm ef mf wx ow s9 s10 Sf Rf P T) ∧ Hid (Rn.All (i + 1) Sf Rf P T) ∧ Hid (Below w.heap.size w wx))
 case rest =>
  exact HJ_.out _ _ _ _ _ _ _ _ _ _ _ _ _ _ _ _ _ _ _ _ _ _ _ _ _ _ _ _ _ _ _ _ _ _ _ _ _ _ _ _ _ _ _ _ _ _ _ _ _ _ _ _ _ _ _ _ _ _ _ _ _ _ _ _ _ _ _ _ _ _ _ _ _ _ _ _ _ _ _ _ _ _ _ _ _ _ _ _ _ _ _ _ _ _ _ _ _ _ _ _ _ _ _ _ _ _ _ _ _ _ _ _ _ _ _ _ _ _ _ _ _ _ _ _ _ _ _ _ _ _ _ _ _ _ _ _ _ _ _ _ _ _ _ _ _ _ _ _ _ _ _ _ _ _ _ _ _ _ _ _ _ _ _ _ _ _ _ _ _ _ _ _ _ _ _ _ _ _ _ _ _ _ _ _ _ _ _ _ _ _ _ _ _ _ _ _ _ _ _ _ _ _ _ _ _ _ _ _ _ _ _ _ _ _ _ _ _ _ _ _ _ _ _ _ _ _ _ hcut
 case first =>
  clear HJ_
  subst h0
  have f2 : wq.cell? ⟨ge, k, none⟩ = some (.pointer (some ⟨ef k, 0, none⟩)) := HM.out.xe.cell (two_get (f := pv ef) hk2)
  go_wp2_with fail
  refine (m_out HM.out hk2 HB.out.size (HI.out.ok hk2 (by omega))).mono ?_
  rintro e w5 ⟨v5, rfl, hr5, hT5, hM5⟩
  have HI5 := Lib.hid (HI.out.out hk2)
  rw [HI.out.s k hk2] at hr5
  obtain ⟨O, hO⟩ : ∃ O, O = K.out (Rf k).k := ⟨_, rfl⟩
  have hO16 : O.length ≤ 16 := by rw [hO]; exact (HI.out.i k hk2).outs.1
  have HPC : Hid (P.length ≤ 1600) := Lib.hid (by have := HI.out.l.2; omega)
  have HTL : Hid (T.length = P.length) := Lib.hid HI.out.l.1
  have HII := Lib.hid (HI.out.i k hk2)
  have HOW := Lib.hid (show ∀ x ∈ ow k, x < wq.heap.size from (HM.out.re k hk2).lt)
  rw [← hO] at hr5 HI5
  have HOO := Lib.hid hO
  have HPX : Hid (∀ x, x ∈ ob u9 ∨ x ∈ ob u10 → wq.heap.size ≤ x → False) := Lib.hid (fun x hx hl => by
   have h2 := HM.out.lt x (by
    rcases hx with h | h
    ·exact Rn.mem_ks.2 ⟨2, by omega, h⟩
    ·exact Rn.mem_ks.2 ⟨3, by omega, h⟩)
   omega)
  have HM5 := Lib.hid hM5
  have HSZ := Lib.hid (show wq.heap.size ≤ w5.heap.size from hT5.size)
  have k1 := Lib.hid (HB.out.trans (hT5.below HB.out.size))
  have HR5 := Lib.hid hr5
  have f3 : w5.cell? ⟨gm, k, none⟩ = some (.pointer (some ⟨mf k, 0, none⟩)) := HM5.out.xm.cell (two_get (f := pv mf) hk2)
  clear f2 hr5 hT5 hM5 hO HM HB HI
  go_wp2_with fail
  refine (m_rout HM5.out hk2 k1.out.size HII.out (by omega)).mono ?_
  rintro e w6 ⟨v6, rfl, hr6, hT6, ht6, ow6, hM6⟩
  rw [← HOO.out] at hr6
  have HM6 := Lib.hid hM6
  have k0 := Lib.hid (k1.out.trans (hT6.below k1.out.size))
  have HSL := Lib.hid (same_lists (HR5.out.tt ht6 (fun y hy e => by have h1 := (HR5.out.lt y (mem_ob.1 hy)).1; have h2 := HOW.out y e; omega)) hr6)
  have HR6 := Lib.hid hr6
  clear f3 hr6 hT6 ht6 hM6 HM5 k1 HR5
  go_wp2_with fail
  refine HSL.out.mono ?_
  rintro e w7 ⟨rfl, k2⟩
  have HM7 := Lib.hid (HM6.out.below k2)
  have k3 := Lib.hid (Blw k0.out k2)
  have hr7 := HR6.out.below k2
  obtain ⟨Ap, cp, rfl, hcp, hmp⟩ := hr7.form
  have HPB : Hid (∀ x, (Value.slice Ap O.length cp).ownBlock = some x → x ∉ ob u9 ∧ x ∉ ob u10) := Lib.hid (fun x hx => by
   have h1 : wq.heap.size ≤ x := Nat.le_trans HSZ.out (HR6.out.lt x hx).1
   refine ⟨fun e => ?_, fun e => ?_⟩
   ·exact HPX.out x (.inl e) h1
   ·exact HPX.out x (.inr e) h1)
  have HR7 := Lib.hid (hr7.base HSZ.out)
  obtain ⟨pa, hpa⟩ : ∃ pa, pa = O.length := ⟨_, rfl⟩
  have HPA := Lib.hid hpa
  have hpb : pa ≤ 9223372036854775807 := by omega
  have hpa16 : pa ≤ 16 := by omega
  obtain ⟨k', hk'⟩ : ∃ k', k' = 1 - k := ⟨_, rfl⟩
  have hk'2 : k' < 2 := by omega
  have hsub : IntKind.i64.wrap (1 - (k : Int)) = (k' : Int) := by rw [IntKind.wrap_i64]; omega
  have hsub2 : wrap64 (1 - (k : Int)) = (k' : Int) := by unfold wrap64; omega
  rw [← hk'] at HI5
  rw [← hpa] at HI5 ⊢
  clear hk' hcp hmp hpa k2 hr7 HR6 HM6 k0 HSL HOO HII HOW hO16
  go_wp2_with fail
  go_loopw [9, 10, 17] (fun s9 s10 s17 wr => ∃ j : Nat, j ≤ pa ∧ s17 = .int .i64 (j : Int) ∧ Hid (Rn.Mem w.heap.size ge gm ef mf wr ow6 s9 s10 (K.upd Sf k { Sf k with owing := false }) (K.upd Rf k { Rf k with owing := false }) (P ++ O.take j) (T ++ List.replicate j k')) ∧ Hid (RowV wq.heap.size wr (.slice Ap O.length cp) O) ∧ Hid (∀ x, (Value.slice Ap O.length cp).ownBlock = some x → x ∉ ob s9 ∧ x ∉ ob s10) ∧ Hid (Below w.heap.size w wr)) (fun _ _ ix _ => (pa - (intOf ix).toNat))
  case atStart => exact ⟨0, by omega, rfl, Lib.hid (by simpa using HM7.out), HR7, HPB, k3⟩
  case round =>
   clear HM7 HR7 HPB k3
   obtain ⟨j, hj2, rfl, HMJ, HRJ, HPJ, HBJ⟩ := hrel
   obtain ⟨wo, rfl⟩ : ∃ wo : World, wo = wr := ⟨_, rfl⟩
   by_cases hj : j < pa
   ·have hjd := decide_eq_true (show (j : Int) < (pa : Int) by omega)
    have hj3 : (j : Int) < (pa : Int) := by omega
    have hj4 : (0 : Int) ≤ (j : Int) := by omega
    obtain ⟨Pj, hPj⟩ : ∃ Q, O[j]? = some Q := ⟨_, List.getElem?_eq_getElem (by have := HPA.out; omega)⟩
    obtain ⟨gp, cq, u, ep, hcu, hbu, -, -⟩ := HRJ.out.at_ hPj
    have hap : Ap = some ⟨gp, 0, none⟩ := by injection ep
    subst hap
    have HBU := Lib.hid hbu
    obtain ⟨Au, cu, rfl, -⟩ := hbu
    obtain ⟨nu, hnu⟩ : ∃ n, n = Pj.length := ⟨_, rfl⟩
    rw [← hnu] at HBU hcu
    have HO1 : Hid (O.take (j + 1) = O.take j ++ [Pj]) := Lib.hid (by rw [List.take_add_one, hPj]; rfl)
    have hsz : w.heap.size ≤ wo.heap.size := HBJ.out.size
    clear hPj ep hnu
    go_wp2_with (at_builtin; refine wpList_appR rfl (.tmp 204) (.tmp 209) rfl rfl rfl (g := wo.heap.size) (base := w.heap.size) (by simp; omega) (HMJ.out.rp.below ((Below.refl _ _).alloc (Nat.le_refl _) _)) (Bx.at_ rfl) (HBU.out.below ((Below.refl _ _).alloc (Nat.le_refl _) _)) (by have := HPC.out; rw [List.length_append, List.length_take]; omega) ?_)
    intro v6 w6 hr6 hg6 hkb6 hn6
    have hba : Below wo.heap.size wo (wo.alloc (.cells #[.slice Au nu cu] 33)) := (Below.refl _ _).alloc (Nat.le_refl _) _
    have hMa := HMJ.out.below hba
    have HM6 := Lib.hid (hMa.app_p hr6 hg6 hkb6 (fun x hx => by rcases hn6 x hx with h | h; exact .inl h; exact .inr (by simp; omega)))
    have k4 := (Blw HBJ.out hba).grown hg6 (by have := hba.size; omega) (fun x hx => (hMa.rp.lt x hx).1)
    have k0 := Lib.hid k4
    have hR6 := (HRJ.out.below hba).kept hg6 (fun x hx e => (HPJ.out x hx).1 (mem_ob.2 e.symm)) hkb6
    have HR6 := Lib.hid hR6
    have HP6 : Hid (∀ x, (Value.slice (some ⟨gp, 0, none⟩) O.length cp).ownBlock = some x → x ∉ ob v6 ∧ x ∉ ob u10) := Lib.hid (fun x hx => ⟨fun e => by
     rcases hn6 x (mem_ob.1 e) with h | h
     ·exact (HPJ.out x hx).1 (mem_ob.2 h)
     ·have := (HRJ.out.lt x hx).2; have := hba.size; omega, (HPJ.out x hx).2⟩)
    have hsz6 : w.heap.size ≤ w6.heap.size := k4.size
    clear hr6 hg6 hkb6 hn6 hba hMa k4 hR6 HMJ HRJ HPJ HBJ HBU hcu
    go_wp2_with (at_builtin; refine wpList_appI (t := k') rfl (.tmp 211) (.tmp 214) rfl rfl rfl (g := w6.heap.size) (base := w.heap.size) (by simp; omega) (own_below HM6.out.rt ((Below.refl _ _).alloc (Nat.le_refl _) _)) (Bx.at_ rfl) (by have := HPC.out; have := HTL.out; rw [List.length_append, List.length_replicate]; omega) ?_)
    intro v7 w7 hr7 hg7 hkb7 hn7
    have hba : Below w6.heap.size w6 (w6.alloc (.cells #[tcell k'] 3)) := (Below.refl _ _).alloc (Nat.le_refl _) _
    have hMa := HM6.out.below hba
    have HM7 := Lib.hid (hMa.app_t (T' := (T ++ List.replicate j k') ++ [k']) (by simpa using hr7) hg7 hkb7 (fun x hx => by rcases hn7 x hx with h | h; exact .inl h; exact .inr (by simp; omega)))
    have k3 := Lib.hid ((Blw k0.out hba).grown hg7 (by have := hba.size; omega) (fun x hx => (hMa.rt.lt x hx).1))
    have HR7 := Lib.hid ((HR6.out.below hba).kept hg7 (fun x hx e => (HP6.out x hx).2 (mem_ob.2 e.symm)) hkb7)
    have HP7 : Hid (∀ x, (Value.slice (some ⟨gp, 0, none⟩) O.length cp).ownBlock = some x → x ∉ ob v6 ∧ x ∉ ob v7) := Lib.hid (fun x hx => ⟨(HP6.out x hx).1, fun e => by
     rcases hn7 x (mem_ob.1 e) with h | h
     ·exact (HP6.out x hx).2 (mem_ob.2 h)
     ·have := (HR6.out.lt x hx).2; have := hba.size; omega⟩)
    have HM8 : Hid (Rn.Mem w.heap.size ge gm ef mf w7 ow6 v6 v7 (K.upd Sf k { Sf k with owing := false }) (K.upd Rf k { Rf k with owing := false }) (P ++ O.take (j + 1)) (T ++ List.replicate (j + 1) k')) := Lib.hid (by
     have h := HM7.out
     rw [HO1.out, List.replicate_succ', ← List.append_assoc T]
     exact h)
    clear hr7 hg7 hkb7 hn7 hba hMa HM6 HM7 k0 HR6 HP6
    go_wp2
    exact ⟨⟨j + 1, by omega, by go_num, HM8, HR7, HP7, k3⟩, by simp [intOf]; omega⟩
   ·have hjd := decide_eq_false (show ¬ (j : Int) < (pa : Int) by omega)
    have hjp : j = pa := by omega
    rw [hjp] at HMJ
    have HM9 : Hid (Rn.Mem w.heap.size ge gm ef mf wo ow6 u9 u10 (K.upd Sf k { Sf k with owing := false }) (K.upd Rf k { Rf k with owing := false }) (P ++ O) (T ++ List.replicate pa k')) := Lib.hid (by
     have h := HMJ.out
     rwa [HPA.out, List.take_length, ← HPA.out] at h)
    clear hjp HMJ
    go_wp2
    go_meet
    exact ⟨_, _, _, _, _, HM9, HI5, HBJ⟩
set_option maxRecDepth 100000 in
theorem rn_out3 {K_ : Act → World → Prop} {Q_ : Exit → Act → World → Prop} (w wq : World) (ge gm i n k h : Nat) (ef mf : Nat → Nat) (Sf : Nat → K.E) (Rf : Nat → Rn.E) (ow : Nat → List Nat) (P : List (List UInt8)) (T : List Nat) (key : Int) (u9 u10 : Value) (HK : Hid (0 ≤ key ∧ key < 18446744073709551616)) (hi : i < 60) (hnb : n < 1073741824) (hk2 : k < 2) (hk3 : (k : Int) < 2) (hk4 : (0 : Int) ≤ (k : Int)) (HM : Hid (Rn.Mem w.heap.size ge gm ef mf wq ow u9 u10 Sf Rf P T)) (HI : Hid (Rn.All i Sf Rf P T)) (HB : Hid (Below w.heap.size w wq)) (h0 : h = 3)
  (x0_ x2_ x3_ x4_ x5_ x6_ x14_ x15_ x16_ x17_ x18_ x19_ x20_ x21_ x22_ x23_ x24_ x25_ x26_ x27_ x28_ x29_ x30_ x31_ x32_ x33_ x34_ x35_ x36_ x37_ x38_ x39_ x40_ x41_ x42_ x43_ x44_ x45_ x46_ x47_ x48_ x49_ x50_ x51_ x52_ x53_ x54_ x55_ x56_ x57_ x58_ x59_ x60_ x61_ x62_ x63_ x64_ x65_ x67_ x68_ x69_ x70_ x71_ x72_ x73_ x74_ x75_ x76_ x77_ x78_ x79_ x80_ x81_ x82_ x83_ x84_ x85_ x86_ x87_ x88_ x89_ x90_ x91_ x92_ x93_ x94_ x95_ x96_ x97_ x98_ x99_ x100_ x101_ x102_ x103_ x104_ x105_ x106_ x107_ x108_ x109_ x110_ x111_ x112_ x113_ x114_ x115_ x116_ x117_ x118_ x119_ x120_ x121_ x122_ x123_ x124_ x125_ x126_ x127_ x128_ x129_ x130_ x131_ x132_ x133_ x134_ x135_ x136_ x137_ x138_ x139_ x140_ x141_ x142_ x143_ x144_ x145_ x146_ x147_ x148_ x149_ x150_ x151_ x152_ x153_ x154_ x155_ x156_ x157_ x158_ x159_ x160_ x161_ x162_ x163_ x164_ x165_ x166_ x167_ x168_ x169_ x170_ x171_ x172_ x173_ x174_ x175_ x176_ x177_ x178_ x179_ x180_ x181_ x182_ x183_ x184_ x185_ x186_ x187_ x188_ x189_ x190_ x191_ x192_ x193_ x194_ x195_ x196_ x197_ x198_ x199_ x200_ x201_ x202_ x203_ x204_ x205_ x206_ x207_ x208_ x209_ x210_ x211_ x212_ x213_ x214_ x215_ x216_ x217_ x218_ x219_ x220_ x221_ x222_ x223_ x224_ x225_ x226_ x227_ x228_ x229_ x230_ x231_ x232_ x233_ x234_ x235_ x236_ x237_ x238_ x239_ x240_ x241_ x242_ x243_ x244_ x245_ x246_ x247_ x248_ x249_ x250_ x251_ x252_ x253_ x254_ x255_ x256_ x257_ : Value) (hJ : ∀ (s6_ s9_ s10_ s14_ s15_ s16_ s17_ s18_ s19_ s20_ s21_ s22_ s23_ t44_ t45_ t46_ t47_ t48_ t49_ t50_ t51_ t52_ t53_ t54_ t55_ t56_ t57_ t58_ t59_ t60_ t61_ t62_ t63_ t64_ t65_ t66_ t67_ t68_ t69_ t70_ t71_ t72_ t73_ t74_ t75_ t76_ t77_ t78_ t79_ t80_ t81_ t82_ t83_ t84_ t85_ t86_ t87_ t88_ t89_ t90_ t91_ t92_ t93_ t94_ t95_ t96_ t97_ t98_ t99_ t100_ t101_ t102_ t103_ t104_ t105_ t106_ t107_ t108_ t109_ t110_ t111_ t112_ t113_ t114_ t115_ t116_ t117_ t118_ t119_ t120_ t121_ t122_ t123_ t124_ t125_ t126_ t127_ t128_ t129_ t130_ t131_ t132_ t133_ t134_ t135_ t136_ t137_ t138_ t139_ t140_ t141_ t142_ t143_ t144_ t145_ t146_ t147_ t148_ t149_ t150_ t151_ t152_ t153_ t154_ t155_ t156_ t157_ t158_ t159_ t160_ t161_ t162_ t163_ t164_ t165_ t166_ t167_ t168_ t169_ t170_ t171_ t172_ t173_ t174_ t175_ t176_ t177_ t178_ t179_ t180_ t181_ t182_ t183_ t184_ t185_ t186_ t187_ t188_ t189_ t190_ t191_ t192_ t193_ t194_ t195_ t196_ t197_ t198_ t199_ t200_ t201_ t202_ t203_ t204_ t205_ t206_ t207_ t208_ t209_ t210_ t211_ t212_ t213_ t214_ t215_ t216_ t217_ t218_ t219_ t220_ t221_ t222_ t223_ t224_ t225_ t226_ t227_ t228_ t229_ t230_ t231_ t232_ t233_ t234_ t235_ t236_ t237_ t238_ t239_ t240_ t241_ t242_ t243_ t244_ t245_ t246_ t247_ t248_ t249_ t250_ t251_ t252_ t253_ t254_ t255_ t256_ : Value) (wx : World), (∃ (Sf : Nat → K.E) (Rf : Nat → Rn.E) (ow : Nat → List Nat) (P : List (List UInt8)) (T : List Nat), Hid (Rn.Mem w.heap.size ge gm ef mf wx ow s9_ s10_ Sf Rf P T) ∧ Hid (Rn.All (i + 1) Sf Rf P T) ∧ Hid (Below w.heap.size w wx)) → K_ ⟨#[x0_, .int .u64 key, x2_, x3_, x4_, x5_, s6_, .slice (some ⟨ge, 0, none⟩) 2 2, .slice (some ⟨gm, 0, none⟩) 2 2, s9_, s10_, .int .i64 (i : Int), .int .i64 (n : Int), .int .i64 (k : Int), s14_, s15_, s16_, s17_, s18_, s19_, s20_, s21_, s22_, s23_, x24_, x25_, x26_, x27_, x28_, x29_, x30_, x31_, x32_, x33_, x34_, x35_, x36_, x37_, x38_, x39_, x40_, x41_, x42_, x43_, t44_, t45_, t46_, t47_, t48_, t49_, t50_, t51_, t52_, t53_, t54_, t55_, t56_, t57_, t58_, t59_, t60_, t61_, t62_, t63_, t64_, t65_, t66_, t67_, t68_, t69_, t70_, t71_, t72_, t73_, t74_, t75_, t76_, t77_, t78_, t79_, t80_, t81_, t82_, t83_, t84_, t85_, t86_, t87_, t88_, t89_, t90_, t91_, t92_, t93_, t94_, t95_, t96_, t97_, t98_, t99_, t100_, t101_, t102_, t103_, t104_, t105_, t106_, t107_, t108_, t109_, t110_, t111_, t112_, t113_, t114_, t115_, t116_, t117_, t118_, t119_, t120_, t121_, t122_, t123_, t124_, t125_, t126_, t127_, t128_, t129_, t130_, t131_, t132_, t133_, t134_, t135_, t136_, t137_, t138_, t139_, t140_, t141_, t142_, t143_, t144_, t145_, t146_, t147_, t148_, t149_, t150_, t151_, t152_, t153_, t154_, t155_, t156_, t157_, t158_, t159_, t160_, t161_, t162_, t163_, t164_, t165_, t166_, t167_, t168_, t169_, t170_, t171_, t172_, t173_, t174_, t175_, t176_, t177_, t178_, t179_, t180_, t181_, t182_, t183_, t184_, t185_, t186_, t187_, t188_, t189_, t190_, t191_, t192_, t193_, t194_, t195_, t196_, t197_, t198_, t199_, t200_, t201_, t202_, t203_, t204_, t205_, t206_, t207_, t208_, t209_, t210_, t211_, t212_, t213_, t214_, t215_, t216_, t217_, t218_, t219_, t220_, t221_, t222_, t223_, t224_, t225_, t226_, t227_, t228_, t229_, t230_, t231_, t232_, t233_, t234_, t235_, t236_, t237_, t238_, t239_, t240_, t241_, t242_, t243_, t244_, t245_, t246_, t247_, t248_, t249_, t250_, t251_, t252_, t253_, t254_, t255_, t256_, x257_], []⟩ wx) :
  Code.wp Try.prog ((blkIn 2 ((Try.f3.body).getD .skip)).getD .skip) (Exit.then K_ Q_) ⟨#[x0_, .int .u64 key, x2_, x3_, x4_, x5_, x6_, .slice (some ⟨ge, 0, none⟩) 2 2, .slice (some ⟨gm, 0, none⟩) 2 2, u9, u10, .int .i64 (i : Int), .int .i64 (n : Int), .int .i64 (k : Int), x14_, x15_, x16_, x17_, x18_, x19_, x20_, x21_, x22_, x23_, x24_, x25_, x26_, x27_, x28_, x29_, x30_, x31_, x32_, x33_, x34_, x35_, x36_, x37_, x38_, x39_, x40_, x41_, x42_, x43_, x44_, x45_, x46_, x47_, x48_, x49_, x50_, x51_, x52_, x53_, x54_, x55_, x56_, x57_, x58_, x59_, x60_, x61_, x62_, x63_, x64_, x65_, .int .i64 (h : Int), x67_, x68_, x69_, x70_, x71_, x72_, x73_, x74_, x75_, x76_, x77_, x78_, x79_, x80_, x81_, x82_, x83_, x84_, x85_, x86_, x87_, x88_, x89_, x90_, x91_, x92_, x93_, x94_, x95_, x96_, x97_, x98_, x99_, x100_, x101_, x102_, x103_, x104_, x105_, x106_, x107_, x108_, x109_, x110_, x111_, x112_, x113_, x114_, x115_, x116_, x117_, x118_, x119_, x120_, x121_, x122_, x123_, x124_, x125_, x126_, x127_, x128_, x129_, x130_, x131_, x132_, x133_, x134_, x135_, x136_, x137_, x138_, x139_, x140_, x141_, x142_, x143_, x144_, x145_, x146_, x147_, x148_, x149_, x150_, x151_, x152_, x153_, x154_, x155_, x156_, x157_, x158_, x159_, x160_, x161_, x162_, x163_, x164_, x165_, x166_, x167_, x168_, x169_, x170_, x171_, x172_, x173_, x174_, x175_, x176_, x177_, x178_, x179_, x180_, x181_, x182_, x183_, x184_, x185_, x186_, x187_, x188_, x189_, x190_, x191_, x192_, x193_, x194_, x195_, x196_, x197_, x198_, x199_, x200_, x201_, x202_, x203_, x204_, x205_, x206_, x207_, x208_, x209_, x210_, x211_, x212_, x213_, x214_, x215_, x216_, x217_, x218_, x219_, x220_, x221_, x222_, x223_, x224_, x225_, x226_, x227_, x228_, x229_, x230_, x231_, x232_, x233_, x234_, x235_, x236_, x237_, x238_, x239_, x240_, x241_, x242_, x243_, x244_, x245_, x246_, x247_, x248_, x249_, x250_, x251_, x252_, x253_, x254_, x255_, x256_, x257_], []⟩ wq := by
 have HJ_ := Lib.hid hJ; clear hJ
 have hi4 : (0 : Int) ≤ (i : Int) := by omega
 have hi5 : (i : Int) < 60 := by omega
 conv => arg 2; whnf
 conv => arg 4; dsimp only
 go_cut [9, 10, 14, 15, 16, 17, 18, 19, 20, 21, 22, 23] from 44 to 256 (fun s9 s10 s14 s15 s16 s17 s18 s19 s20 s21 s22 s23 wx => ∃ (Sf : Nat → K.E) (Rf : Nat → Rn.E) (ow : Nat → List Nat) (P : List (List UInt8)) (T : List Nat), Hid (Rn.Mem w.heap.size ge gm ef mf wx ow s9 s10 Sf Rf P T) ∧ Hid (Rn.All (i + 1) Sf Rf P T) ∧ Hid (Below w.heap.size w wx))
 case rest =>
  exact HJ_.out _ _ _ _ _ _ _ _ _ _ _ _ _ _ _ _ _ _ _ _ _ _ _ _ _ _ _ _ _ _ _ _ _ _ _ _ _ _ _ _ _ _ _ _ _ _ _ _ _ _ _ _ _ _ _ _ _ _ _ _ _ _ _ _ _ _ _ _ _ _ _ _ _ _ _ _ _ _ _ _ _ _ _ _ _ _ _ _ _ _ _ _ _ _ _ _ _ _ _ _ _ _ _ _ _ _ _ _ _ _ _ _ _ _ _ _ _ _ _ _ _ _ _ _ _ _ _ _ _ _ _ _ _ _ _ _ _ _ _ _ _ _ _ _ _ _ _ _ _ _ _ _ _ _ _ _ _ _ _ _ _ _ _ _ _ _ _ _ _ _ _ _ _ _ _ _ _ _ _ _ _ _ _ _ _ _ _ _ _ _ _ _ _ _ _ _ _ _ _ _ _ _ _ _ _ _ _ _ _ _ _ _ _ _ _ _ _ _ _ _ _ _ _ _ _ _ _ hcut
 case first =>
  clear HJ_
  subst h0
  have f2 : wq.cell? ⟨ge, k, none⟩ = some (.pointer (some ⟨ef k, 0, none⟩)) := HM.out.xe.cell (two_get (f := pv ef) hk2)
  go_wp2_with fail
  refine (m_out HM.out hk2 HB.out.size (HI.out.ok hk2 (by omega))).mono ?_
  rintro e w5 ⟨v5, rfl, hr5, hT5, hM5⟩
  have HI5 := Lib.hid (HI.out.out hk2)
  rw [HI.out.s k hk2] at hr5
  obtain ⟨O, hO⟩ : ∃ O, O = K.out (Rf k).k := ⟨_, rfl⟩
  have hO16 : O.length ≤ 16 := by rw [hO]; exact (HI.out.i k hk2).outs.1
  have HPC : Hid (P.length ≤ 1600) := Lib.hid (by have := HI.out.l.2; omega)
  have HTL : Hid (T.length = P.length) := Lib.hid HI.out.l.1
  have HII := Lib.hid (HI.out.i k hk2)
  have HOW := Lib.hid (show ∀ x ∈ ow k, x < wq.heap.size from (HM.out.re k hk2).lt)
  rw [← hO] at hr5 HI5
  have HOO := Lib.hid hO
  have HPX : Hid (∀ x, x ∈ ob u9 ∨ x ∈ ob u10 → wq.heap.size ≤ x → False) := Lib.hid (fun x hx hl => by
   have h2 := HM.out.lt x (by
    rcases hx with h | h
    ·exact Rn.mem_ks.2 ⟨2, by omega, h⟩
    ·exact Rn.mem_ks.2 ⟨3, by omega, h⟩)
   omega)
  have HM5 := Lib.hid hM5
  have HSZ := Lib.hid (show wq.heap.size ≤ w5.heap.size from hT5.size)
  have k1 := Lib.hid (HB.out.trans (hT5.below HB.out.size))
  have HR5 := Lib.hid hr5
  have f3 : w5.cell? ⟨gm, k, none⟩ = some (.pointer (some ⟨mf k, 0, none⟩)) := HM5.out.xm.cell (two_get (f := pv mf) hk2)
  clear f2 hr5 hT5 hM5 hO HM HB HI
  go_wp2_with fail
  refine (m_rout HM5.out hk2 k1.out.size HII.out (by omega)).mono ?_
  rintro e w6 ⟨v6, rfl, hr6, hT6, ht6, ow6, hM6⟩
  rw [← HOO.out] at hr6
  have HM6 := Lib.hid hM6
  have k0 := Lib.hid (k1.out.trans (hT6.below k1.out.size))
  have HSL := Lib.hid (same_lists (HR5.out.tt ht6 (fun y hy e => by have h1 := (HR5.out.lt y (mem_ob.1 hy)).1; have h2 := HOW.out y e; omega)) hr6)
  have HR6 := Lib.hid hr6
  clear f3 hr6 hT6 ht6 hM6 HM5 k1 HR5
  go_wp2_with fail
  refine HSL.out.mono ?_
  rintro e w7 ⟨rfl, k2⟩
  have HM7 := Lib.hid (HM6.out.below k2)
  have k3 := Lib.hid (Blw k0.out k2)
  have hr7 := HR6.out.below k2
  obtain ⟨Ap, cp, rfl, hcp, hmp⟩ := hr7.form
  have HPB : Hid (∀ x, (Value.slice Ap O.length cp).ownBlock = some x → x ∉ ob u9 ∧ x ∉ ob u10) := Lib.hid (fun x hx => by
   have h1 : wq.heap.size ≤ x := Nat.le_trans HSZ.out (HR6.out.lt x hx).1
   refine ⟨fun e => ?_, fun e => ?_⟩
   ·exact HPX.out x (.inl e) h1
   ·exact HPX.out x (.inr e) h1)
  have HR7 := Lib.hid (hr7.base HSZ.out)
  obtain ⟨pa, hpa⟩ : ∃ pa, pa = O.length := ⟨_, rfl⟩
  have HPA := Lib.hid hpa
  have hpb : pa ≤ 9223372036854775807 := by omega
  have hpa16 : pa ≤ 16 := by omega
  obtain ⟨k', hk'⟩ : ∃ k', k' = 1 - k := ⟨_, rfl⟩
  have hk'2 : k' < 2 := by omega
  have hsub : IntKind.i64.wrap (1 - (k : Int)) = (k' : Int) := by rw [IntKind.wrap_i64]; omega
  have hsub2 : wrap64 (1 - (k : Int)) = (k' : Int) := by unfold wrap64; omega
  rw [← hk'] at HI5
  rw [← hpa] at HI5 ⊢
  clear hk' hcp hmp hpa k2 hr7 HR6 HM6 k0 HSL HOO HII HOW hO16
  go_wp2_with fail
  go_loopw [9, 10, 17] (fun s9 s10 s17 wr => ∃ j : Nat, j ≤ pa ∧ s17 = .int .i64 (j : Int) ∧ Hid (Rn.Mem w.heap.size ge gm ef mf wr ow6 s9 s10 (K.upd Sf k { Sf k with owing := false }) (K.upd Rf k { Rf k with owing := false }) (P ++ O.take j) (T ++ List.replicate j k')) ∧ Hid (RowV wq.heap.size wr (.slice Ap O.length cp) O) ∧ Hid (∀ x, (Value.slice Ap O.length cp).ownBlock = some x → x ∉ ob s9 ∧ x ∉ ob s10) ∧ Hid (Below w.heap.size w wr)) (fun _ _ ix _ => (pa - (intOf ix).toNat))
  case atStart => exact ⟨0, by omega, rfl, Lib.hid (by simpa using HM7.out), HR7, HPB, k3⟩
  case round =>
   clear HM7 HR7 HPB k3
   obtain ⟨j, hj2, rfl, HMJ, HRJ, HPJ, HBJ⟩ := hrel
   obtain ⟨wo, rfl⟩ : ∃ wo : World, wo = wr := ⟨_, rfl⟩
   by_cases hj : j < pa
   ·have hjd := decide_eq_true (show (j : Int) < (pa : Int) by omega)
    have hj3 : (j : Int) < (pa : Int) := by omega
    have hj4 : (0 : Int) ≤ (j : Int) := by omega
    obtain ⟨Pj, hPj⟩ : ∃ Q, O[j]? = some Q := ⟨_, List.getElem?_eq_getElem (by have := HPA.out; omega)⟩
    obtain ⟨gp, cq, u, ep, hcu, hbu, -, -⟩ := HRJ.out.at_ hPj
    have hap : Ap = some ⟨gp, 0, none⟩ := by injection ep
    subst hap
    have HBU := Lib.hid hbu
    obtain ⟨Au, cu, rfl, -⟩ := hbu
    obtain ⟨nu, hnu⟩ : ∃ n, n = Pj.length := ⟨_, rfl⟩
    rw [← hnu] at HBU hcu
    have HO1 : Hid (O.take (j + 1) = O.take j ++ [Pj]) := Lib.hid (by rw [List.take_add_one, hPj]; rfl)
    have hsz : w.heap.size ≤ wo.heap.size := HBJ.out.size
    clear hPj ep hnu
    go_wp2_with (at_builtin; refine wpList_appR rfl (.tmp 204) (.tmp 209) rfl rfl rfl (g := wo.heap.size) (base := w.heap.size) (by simp; omega) (HMJ.out.rp.below ((Below.refl _ _).alloc (Nat.le_refl _) _)) (Bx.at_ rfl) (HBU.out.below ((Below.refl _ _).alloc (Nat.le_refl _) _)) (by have := HPC.out; rw [List.length_append, List.length_take]; omega) ?_)
    intro v6 w6 hr6 hg6 hkb6 hn6
    have hba : Below wo.heap.size wo (wo.alloc (.cells #[.slice Au nu cu] 33)) := (Below.refl _ _).alloc (Nat.le_refl _) _
    have hMa := HMJ.out.below hba
    have HM6 := Lib.hid (hMa.app_p hr6 hg6 hkb6 (fun x hx => by rcases hn6 x hx with h | h; exact .inl h; exact .inr (by simp; omega)))
    have k4 := (Blw HBJ.out hba).grown hg6 (by have := hba.size; omega) (fun x hx => (hMa.rp.lt x hx).1)
    have k0 := Lib.hid k4
    have hR6 := (HRJ.out.below hba).kept hg6 (fun x hx e => (HPJ.out x hx).1 (mem_ob.2 e.symm)) hkb6
    have HR6 := Lib.hid hR6
    have HP6 : Hid (∀ x, (Value.slice (some ⟨gp, 0, none⟩) O.length cp).ownBlock = some x → x ∉ ob v6 ∧ x ∉ ob u10) := Lib.hid (fun x hx => ⟨fun e => by
     rcases hn6 x (mem_ob.1 e) with h | h
     ·exact (HPJ.out x hx).1 (mem_ob.2 h)
     ·have := (HRJ.out.lt x hx).2; have := hba.size; omega, (HPJ.out x hx).2⟩)
    have hsz6 : w.heap.size ≤ w6.heap.size := k4.size
    clear hr6 hg6 hkb6 hn6 hba hMa k4 hR6 HMJ HRJ HPJ HBJ HBU hcu
    go_wp2_with (at_builtin; refine wpList_appI (t := k') rfl (.tmp 211) (.tmp 214) rfl rfl rfl (g := w6.heap.size) (base := w.heap.size) (by simp; omega) (own_below HM6.out.rt ((Below.refl _ _).alloc (Nat.le_refl _) _)) (Bx.at_ rfl) (by have := HPC.out; have := HTL.out; rw [List.length_append, List.length_replicate]; omega) ?_)
    intro v7 w7 hr7 hg7 hkb7 hn7
    have hba : Below w6.heap.size w6 (w6.alloc (.cells #[tcell k'] 3)) := (Below.refl _ _).alloc (Nat.le_refl _) _
    have hMa := HM6.out.below hba
    have HM7 := Lib.hid (hMa.app_t (T' := (T ++ List.replicate j k') ++ [k']) (by simpa using hr7) hg7 hkb7 (fun x hx => by rcases hn7 x hx with h | h; exact .inl h; exact .inr (by simp; omega)))
    have k3 := Lib.hid ((Blw k0.out hba).grown hg7 (by have := hba.size; omega) (fun x hx => (hMa.rt.lt x hx).1))
    have HR7 := Lib.hid ((HR6.out.below hba).kept hg7 (fun x hx e => (HP6.out x hx).2 (mem_ob.2 e.symm)) hkb7)
    have HP7 : Hid (∀ x, (Value.slice (some ⟨gp, 0, none⟩) O.length cp).ownBlock = some x → x ∉ ob v6 ∧ x ∉ ob v7) := Lib.hid (fun x hx => ⟨(HP6.out x hx).1, fun e => by
     rcases hn7 x (mem_ob.1 e) with h | h
     ·exact (HP6.out x hx).2 (mem_ob.2 h)
     ·have := (HR6.out.lt x hx).2; have := hba.size; omega⟩)
    have HM8 : Hid (Rn.Mem w.heap.size ge gm ef mf w7 ow6 v6 v7 (K.upd Sf k { Sf k with owing := false }) (K.upd Rf k { Rf k with owing := false }) (P ++ O.take (j + 1)) (T ++ List.replicate (j + 1) k')) := Lib.hid (by
     have h := HM7.out
     rw [HO1.out, List.replicate_succ', ← List.append_assoc T]
     exact h)
    clear hr7 hg7 hkb7 hn7 hba hMa HM6 HM7 k0 HR6 HP6
    go_wp2
    exact ⟨⟨j + 1, by omega, by go_num, HM8, HR7, HP7, k3⟩, by simp [intOf]; omega⟩
   ·have hjd := decide_eq_false (show ¬ (j : Int) < (pa : Int) by omega)
    have hjp : j = pa := by omega
    rw [hjp] at HMJ
    have HM9 : Hid (Rn.Mem w.heap.size ge gm ef mf wo ow6 u9 u10 (K.upd Sf k { Sf k with owing := false }) (K.upd Rf k { Rf k with owing := false }) (P ++ O) (T ++ List.replicate pa k')) := Lib.hid (by
     have h := HMJ.out
     rwa [HPA.out, List.take_length, ← HPA.out] at h)
    clear hjp HMJ
    go_wp2
    go_meet
    exact ⟨_, _, _, _, _, HM9, HI5, HBJ⟩
set_option maxRecDepth 100000 in
theorem rn_in {K_ : Act → World → Prop} {Q_ : Exit → Act → World → Prop} (w wq : World) (ge gm i n k h : Nat) (ef mf : Nat → Nat) (Sf : Nat → K.E) (Rf : Nat → Rn.E) (ow : Nat → List Nat) (P : List (List UInt8)) (T : List Nat) (key : Int) (u9 u10 : Value) (HK : Hid (0 ≤ key ∧ key < 18446744073709551616)) (hi : i < 60) (hnb : n < 1073741824) (hk2 : k < 2) (hk3 : (k : Int) < 2) (hk4 : (0 : Int) ≤ (k : Int)) (HM : Hid (Rn.Mem w.heap.size ge gm ef mf wq ow u9 u10 Sf Rf P T)) (HI : Hid (Rn.All i Sf Rf P T)) (HB : Hid (Below w.heap.size w wq)) (h4 : 4 ≤ h) (hp0 : ¬ P.length = 0)
  (x0_ x2_ x3_ x4_ x5_ x6_ x14_ x15_ x16_ x17_ x18_ x19_ x20_ x21_ x22_ x23_ x24_ x25_ x26_ x27_ x28_ x29_ x30_ x31_ x32_ x33_ x34_ x35_ x36_ x37_ x38_ x39_ x40_ x41_ x42_ x43_ x44_ x45_ x46_ x47_ x48_ x49_ x50_ x51_ x52_ x53_ x54_ x55_ x56_ x57_ x58_ x59_ x60_ x61_ x62_ x63_ x64_ x65_ x67_ x68_ x69_ x70_ x71_ x72_ x73_ x74_ x75_ x76_ x77_ x78_ x79_ x80_ x81_ x82_ x83_ x84_ x85_ x86_ x87_ x88_ x89_ x90_ x91_ x92_ x93_ x94_ x95_ x96_ x97_ x98_ x99_ x100_ x101_ x102_ x103_ x104_ x105_ x106_ x107_ x108_ x109_ x110_ x111_ x112_ x113_ x114_ x115_ x116_ x117_ x118_ x119_ x120_ x121_ x122_ x123_ x124_ x125_ x126_ x127_ x128_ x129_ x130_ x131_ x132_ x133_ x134_ x135_ x136_ x137_ x138_ x139_ x140_ x141_ x142_ x143_ x144_ x145_ x146_ x147_ x148_ x149_ x150_ x151_ x152_ x153_ x154_ x155_ x156_ x157_ x158_ x159_ x160_ x161_ x162_ x163_ x164_ x165_ x166_ x167_ x168_ x169_ x170_ x171_ x172_ x173_ x174_ x175_ x176_ x177_ x178_ x179_ x180_ x181_ x182_ x183_ x184_ x185_ x186_ x187_ x188_ x189_ x190_ x191_ x192_ x193_ x194_ x195_ x196_ x197_ x198_ x199_ x200_ x201_ x202_ x203_ x204_ x205_ x206_ x207_ x208_ x209_ x210_ x211_ x212_ x213_ x214_ x215_ x216_ x217_ x218_ x219_ x220_ x221_ x222_ x223_ x224_ x225_ x226_ x227_ x228_ x229_ x230_ x231_ x232_ x233_ x234_ x235_ x236_ x237_ x238_ x239_ x240_ x241_ x242_ x243_ x244_ x245_ x246_ x247_ x248_ x249_ x250_ x251_ x252_ x253_ x254_ x255_ x256_ x257_ : Value) (hJ : ∀ (s6_ s9_ s10_ s14_ s15_ s16_ s17_ s18_ s19_ s20_ s21_ s22_ s23_ t44_ t45_ t46_ t47_ t48_ t49_ t50_ t51_ t52_ t53_ t54_ t55_ t56_ t57_ t58_ t59_ t60_ t61_ t62_ t63_ t64_ t65_ t66_ t67_ t68_ t69_ t70_ t71_ t72_ t73_ t74_ t75_ t76_ t77_ t78_ t79_ t80_ t81_ t82_ t83_ t84_ t85_ t86_ t87_ t88_ t89_ t90_ t91_ t92_ t93_ t94_ t95_ t96_ t97_ t98_ t99_ t100_ t101_ t102_ t103_ t104_ t105_ t106_ t107_ t108_ t109_ t110_ t111_ t112_ t113_ t114_ t115_ t116_ t117_ t118_ t119_ t120_ t121_ t122_ t123_ t124_ t125_ t126_ t127_ t128_ t129_ t130_ t131_ t132_ t133_ t134_ t135_ t136_ t137_ t138_ t139_ t140_ t141_ t142_ t143_ t144_ t145_ t146_ t147_ t148_ t149_ t150_ t151_ t152_ t153_ t154_ t155_ t156_ t157_ t158_ t159_ t160_ t161_ t162_ t163_ t164_ t165_ t166_ t167_ t168_ t169_ t170_ t171_ t172_ t173_ t174_ t175_ t176_ t177_ t178_ t179_ t180_ t181_ t182_ t183_ t184_ t185_ t186_ t187_ t188_ t189_ t190_ t191_ t192_ t193_ t194_ t195_ t196_ t197_ t198_ t199_ t200_ t201_ t202_ t203_ t204_ t205_ t206_ t207_ t208_ t209_ t210_ t211_ t212_ t213_ t214_ t215_ t216_ t217_ t218_ t219_ t220_ t221_ t222_ t223_ t224_ t225_ t226_ t227_ t228_ t229_ t230_ t231_ t232_ t233_ t234_ t235_ t236_ t237_ t238_ t239_ t240_ t241_ t242_ t243_ t244_ t245_ t246_ t247_ t248_ t249_ t250_ t251_ t252_ t253_ t254_ t255_ t256_ : Value) (wx : World), (∃ (Sf : Nat → K.E) (Rf : Nat → Rn.E) (ow : Nat → List Nat) (P : List (List UInt8)) (T : List Nat), Hid (Rn.Mem w.heap.size ge gm ef mf wx ow s9_ s10_ Sf Rf P T) ∧ Hid (Rn.All (i + 1) Sf Rf P T) ∧ Hid (Below w.heap.size w wx)) → K_ ⟨#[x0_, .int .u64 key, x2_, x3_, x4_, x5_, s6_, .slice (some ⟨ge, 0, none⟩) 2 2, .slice (some ⟨gm, 0, none⟩) 2 2, s9_, s10_, .int .i64 (i : Int), .int .i64 (n : Int), .int .i64 (k : Int), s14_, s15_, s16_, s17_, s18_, s19_, s20_, s21_, s22_, s23_, x24_, x25_, x26_, x27_, x28_, x29_, x30_, x31_, x32_, x33_, x34_, x35_, x36_, x37_, x38_, x39_, x40_, x41_, x42_, x43_, t44_, t45_, t46_, t47_, t48_, t49_, t50_, t51_, t52_, t53_, t54_, t55_, t56_, t57_, t58_, t59_, t60_, t61_, t62_, t63_, t64_, t65_, t66_, t67_, t68_, t69_, t70_, t71_, t72_, t73_, t74_, t75_, t76_, t77_, t78_, t79_, t80_, t81_, t82_, t83_, t84_, t85_, t86_, t87_, t88_, t89_, t90_, t91_, t92_, t93_, t94_, t95_, t96_, t97_, t98_, t99_, t100_, t101_, t102_, t103_, t104_, t105_, t106_, t107_, t108_, t109_, t110_, t111_, t112_, t113_, t114_, t115_, t116_, t117_, t118_, t119_, t120_, t121_, t122_, t123_, t124_, t125_, t126_, t127_, t128_, t129_, t130_, t131_, t132_, t133_, t134_, t135_, t136_, t137_, t138_, t139_, t140_, t141_, t142_, t143_, t144_, t145_, t146_, t147_, t148_, t149_, t150_, t151_, t152_, t153_, t154_, t155_, t156_, t157_, t158_, t159_, t160_, t161_, t162_, t163_, t164_, t165_, t166_, t167_, t168_, t169_, t170_, t171_, t172_, t173_, t174_, t175_, t176_, t177_, t178_, t179_, t180_, t181_, t182_, t183_, t184_, t185_, t186_, t187_, t188_, t189_, t190_, t191_, t192_, t193_, t194_, t195_, t196_, t197_, t198_, t199_, t200_, t201_, t202_, t203_, t204_, t205_, t206_, t207_, t208_, t209_, t210_, t211_, t212_, t213_, t214_, t215_, t216_, t217_, t218_, t219_, t220_, t221_, t222_, t223_, t224_, t225_, t226_, t227_, t228_, t229_, t230_, t231_, t232_, t233_, t234_, t235_, t236_, t237_, t238_, t239_, t240_, t241_, t242_, t243_, t244_, t245_, t246_, t247_, t248_, t249_, t250_, t251_, t252_, t253_, t254_, t255_, t256_, x257_], []⟩ wx) :
  Code.wp Try.prog ((blkIn 2 ((Try.f3.body).getD .skip)).getD .skip) (Exit.then K_ Q_) ⟨#[x0_, .int .u64 key, x2_, x3_, x4_, x5_, x6_, .slice (some ⟨ge, 0, none⟩) 2 2, .slice (some ⟨gm, 0, none⟩) 2 2, u9, u10, .int .i64 (i : Int), .int .i64 (n : Int), .int .i64 (k : Int), x14_, x15_, x16_, x17_, x18_, x19_, x20_, x21_, x22_, x23_, x24_, x25_, x26_, x27_, x28_, x29_, x30_, x31_, x32_, x33_, x34_, x35_, x36_, x37_, x38_, x39_, x40_, x41_, x42_, x43_, x44_, x45_, x46_, x47_, x48_, x49_, x50_, x51_, x52_, x53_, x54_, x55_, x56_, x57_, x58_, x59_, x60_, x61_, x62_, x63_, x64_, x65_, .int .i64 (h : Int), x67_, x68_, x69_, x70_, x71_, x72_, x73_, x74_, x75_, x76_, x77_, x78_, x79_, x80_, x81_, x82_, x83_, x84_, x85_, x86_, x87_, x88_, x89_, x90_, x91_, x92_, x93_, x94_, x95_, x96_, x97_, x98_, x99_, x100_, x101_, x102_, x103_, x104_, x105_, x106_, x107_, x108_, x109_, x110_, x111_, x112_, x113_, x114_, x115_, x116_, x117_, x118_, x119_, x120_, x121_, x122_, x123_, x124_, x125_, x126_, x127_, x128_, x129_, x130_, x131_, x132_, x133_, x134_, x135_, x136_, x137_, x138_, x139_, x140_, x141_, x142_, x143_, x144_, x145_, x146_, x147_, x148_, x149_, x150_, x151_, x152_, x153_, x154_, x155_, x156_, x157_, x158_, x159_, x160_, x161_, x162_, x163_, x164_, x165_, x166_, x167_, x168_, x169_, x170_, x171_, x172_, x173_, x174_, x175_, x176_, x177_, x178_, x179_, x180_, x181_, x182_, x183_, x184_, x185_, x186_, x187_, x188_, x189_, x190_, x191_, x192_, x193_, x194_, x195_, x196_, x197_, x198_, x199_, x200_, x201_, x202_, x203_, x204_, x205_, x206_, x207_, x208_, x209_, x210_, x211_, x212_, x213_, x214_, x215_, x216_, x217_, x218_, x219_, x220_, x221_, x222_, x223_, x224_, x225_, x226_, x227_, x228_, x229_, x230_, x231_, x232_, x233_, x234_, x235_, x236_, x237_, x238_, x239_, x240_, x241_, x242_, x243_, x244_, x245_, x246_, x247_, x248_, x249_, x250_, x251_, x252_, x253_, x254_, x255_, x256_, x257_], []⟩ wq := by
 have HJ_ := Lib.hid hJ; clear hJ
 have hi4 : (0 : Int) ≤ (i : Int) := by omega
 have hi5 : (i : Int) < 60 := by omega
 conv => arg 2; whnf
 conv => arg 4; dsimp only
 go_cut [9, 10, 14, 15, 16, 17, 18, 19, 20, 21, 22, 23] from 44 to 256 (fun s9 s10 s14 s15 s16 s17 s18 s19 s20 s21 s22 s23 wx => ∃ (Sf : Nat → K.E) (Rf : Nat → Rn.E) (ow : Nat → List Nat) (P : List (List UInt8)) (T : List Nat), Hid (Rn.Mem w.heap.size ge gm ef mf wx ow s9 s10 Sf Rf P T) ∧ Hid (Rn.All (i + 1) Sf Rf P T) ∧ Hid (Below w.heap.size w wx))
 case rest =>
  exact HJ_.out _ _ _ _ _ _ _ _ _ _ _ _ _ _ _ _ _ _ _ _ _ _ _ _ _ _ _ _ _ _ _ _ _ _ _ _ _ _ _ _ _ _ _ _ _ _ _ _ _ _ _ _ _ _ _ _ _ _ _ _ _ _ _ _ _ _ _ _ _ _ _ _ _ _ _ _ _ _ _ _ _ _ _ _ _ _ _ _ _ _ _ _ _ _ _ _ _ _ _ _ _ _ _ _ _ _ _ _ _ _ _ _ _ _ _ _ _ _ _ _ _ _ _ _ _ _ _ _ _ _ _ _ _ _ _ _ _ _ _ _ _ _ _ _ _ _ _ _ _ _ _ _ _ _ _ _ _ _ _ _ _ _ _ _ _ _ _ _ _ _ _ _ _ _ _ _ _ _ _ _ _ _ _ _ _ _ _ _ _ _ _ _ _ _ _ _ _ _ _ _ _ _ _ _ _ _ _ _ _ _ _ _ _ _ _ _ _ _ _ _ _ _ _ _ _ _ _ hcut
 case first =>
  clear HJ_
  have k9 : ((h : Int) == 0) = false := by rw [beq_eq_false_iff_ne]; omega
  have ka : ((h : Int) == 1) = false := by rw [beq_eq_false_iff_ne]; omega
  have kb : ((h : Int) == 2) = false := by rw [beq_eq_false_iff_ne]; omega
  have kc : ((h : Int) == 3) = false := by rw [beq_eq_false_iff_ne]; omega
  obtain ⟨Aq, cq, rfl, hcq, hmq⟩ := HM.out.rp.form
  obtain ⟨np, hnp⟩ : ∃ np, np = P.length := ⟨_, rfl⟩
  have HNP := Lib.hid hnp
  have hnpb : np ≤ 1600 := by have := HI.out.l.2; omega
  rw [← hnp] at HM ⊢
  clear hcq hmq hnp
  have hp0' : np ≠ 0 := by have := HNP.out; omega
  have hpz : ((np : Int) == 0) = false := by rw [beq_eq_false_iff_ne]; omega
  obtain ⟨M, hM0, hM1, hMi⟩ : ∃ M : Nat, 0 < M ∧ M ≤ np ∧ (if (20 : Int) < (np : Int) then (20 : Int) else (np : Int)) = (M : Int) := ⟨min np 20, by omega, by omega, by split <;> omega⟩
  have hMz : ((M : Int) = 0) = False := by simp; omega
  obtain ⟨x, hx, hxp⟩ : ∃ x : Nat, wrap64 ((np : Int) - 1 - (n : Int) / 2 % (M : Int)) = (x : Int) ∧ x < np := by
   obtain ⟨r, hr⟩ : ∃ r : Nat, r = n / 2 % M := ⟨_, rfl⟩
   have h1 : r < M := by rw [hr]; exact Nat.mod_lt _ hM0
   have h2 : (n : Int) / 2 % (M : Int) = (r : Int) := by rw [hr]; simp
   refine ⟨np - 1 - r, ?_, by omega⟩
   rw [h2]
   unfold wrap64
   omega
  have hx3 : (x : Int) < (np : Int) := by omega
  have hx4 : (0 : Int) ≤ (x : Int) := by omega
  have hTn : T.length = np := by rw [HI.out.l.1]; exact HNP.out.symm
  obtain ⟨gt, ct, rfl, -, -, hgt, hgts⟩ := own_pos HM.out.rt (by omega)
  rw [hTn] at HM ⊢
  obtain ⟨t, ht⟩ : ∃ t, T[x]? = some t := ⟨_, List.getElem?_eq_getElem (by omega)⟩
  obtain ⟨PQ, hPQ⟩ : ∃ Q, P[x]? = some Q := ⟨_, List.getElem?_eq_getElem (by have := HNP.out; omega)⟩
  have ht2 : t < 2 := HI.out.t t (List.mem_of_getElem? ht)
  have ht3 : (t : Int) < 2 := by omega
  have ht4 : (0 : Int) ≤ (t : Int) := by omega
  have HT := Lib.hid (show ∀ (wx : World) (ow : Nat → List Nat) (Sf : Nat → K.E) (Rf : Nat → Rn.E), Rn.Mem w.heap.size ge gm ef mf wx ow (.slice Aq np cq) (.slice (some ⟨gt, 0, none⟩) np ct) Sf Rf P T → wx.cell? ⟨gt, x, none⟩ = some (.int .i64 (t : Int)) from fun wx ow Sf Rf hm => by
   have h := own_cells (by have h := hm.rt; rw [hTn] at h; exact h) x (tcell t) (by rw [List.getElem?_map, ht]; rfl)
   rw [Addr.add_lit, Nat.zero_add] at h
   exact h)
  obtain ⟨hp1, hp2⟩ := HI.out.p PQ (List.mem_of_getElem? hPQ)
  have hrp : RowV w.heap.size wq (.slice Aq P.length cq) P := by rw [← HNP.out]; exact HM.out.rp
  obtain ⟨gq, cq', u, ep, hcu, hbu, -, -⟩ := hrp.at_ hPQ
  have hap : Aq = some ⟨gq, 0, none⟩ := by injection ep
  subst hap
  have HBU := Lib.hid hbu
  obtain ⟨Au, cu, rfl, -⟩ := hbu
  have HFW : Hid (∀ wx, Below wq.heap.size wq wx → Calls Try.prog 16 #[.slice Au PQ.length cu, .int .i64 (PQ.length : Int)] wx (RB_ PQ wx)) := Lib.hid (fun wx hb => by
   have h := few_bv (HBU.out.below hb) PQ.length (by omega)
   rwa [List.take_length] at h)
  have HCP : Hid (∀ wx, Below wq.heap.size wq wx → wx.cell? ⟨gq, x, none⟩ = some (.slice Au PQ.length cu)) := Lib.hid (fun wx hb => (hb.cell (p := ⟨gq, x, none⟩) (World.block_lt_of_cell? wq ⟨gq, x, none⟩ hcu)).trans hcu)
  obtain ⟨nu, hnu⟩ : ∃ n, n = PQ.length := ⟨_, rfl⟩
  have HNU := Lib.hid hnu
  rw [← hnu] at HFW HCP hp1 hp2
  clear hTn hgt hgts ht hPQ hrp ep hcu hnu HBU
  go_upto_region 15 with fail
  try rw [hx]
  refine rn_reg15 wq gq np cq x nu cu Au PQ hx3 hx4 HCP HFW _ _ _ _ _ _ _ _ _ _ _ _ _ _ _ _ _ _ _ _ _ _ _ _ _ _ _ _ _ _ _ _ _ _ _ _ _ _ _ _ _ _ _ _ _ _ _ _ _ _ _ _ _ _ _ _ _ _ _ _ _ _ _ _ _ _ _ _ _ _ _ _ _ _ _ _ _ _ _ _ _ _ _ _ _ _ _ _ _ _ _ _ _ _ _ _ _ _ _ _ _ _ _ _ _ _ _ _ _ _ _ _ _ _ _ _ _ _ _ _ _ _ _ _ _ _ _ _ _ _ _ _ _ _ _ _ _ _ _ _ _ _ _ _ _ _ _ _ _ _ _ _ _ _ _ _ _ _ _ _ _ _ _ _ _ _ _ _ _ _ _ _ _ _ _ _ _ _ _ _ _ _ _ _ _ _ _ _ _ _ _ _ _ _ _ _ _ _ _ _ _ _ _ _ _ _ _ _ _ _ _ _ _ _ _ _ _ _ _ _ _ _ _ _ _ _ _ _ _ _ _ _ _ _ _ _ _ _ _ _ _ _ _ _ _ _ _ _ _ _ _ _ _ _ _ _ (fun val wx hBo uq10 h10 => ?_)
  obtain ⟨w5, rfl⟩ : ∃ w5 : World, w5 = wx := ⟨_, rfl⟩
  have ho5 : w5.ownsRow wq.heap.size 5 1 uq10 PQ.length (W.bc PQ) := h10
  rw [← HNU.out] at ho5
  obtain ⟨gf, cf, rfl, -, -, hgf, hgf2⟩ := own_pos ho5 (by omega)
  have HO5 := Lib.hid ho5
  have k3 := Lib.hid hBo
  clear hx hxp h10 ho5 hBo HFW HCP hMi hMz hM0 hM1
  obtain ⟨r13, hr13, hr13'⟩ : ∃ r : Nat, Int.tmod (n : Int) 13 = (r : Int) ∧ (n : Int) % 13 = (r : Int) := ⟨n % 13, by rw [Int.tmod_eq_emod_of_nonneg (by omega)]; omega, by omega⟩
  obtain ⟨r17, hr17, hr17'⟩ : ∃ r : Nat, Int.tmod (n : Int) 17 = (r : Int) ∧ (n : Int) % 17 = (r : Int) := ⟨n % 17, by rw [Int.tmod_eq_emod_of_nonneg (by omega)]; omega, by omega⟩
  obtain ⟨r19, hr19, hr19'⟩ : ∃ r : Nat, Int.tmod (n : Int) 19 = (r : Int) ∧ (n : Int) % 19 = (r : Int) := ⟨n % 19, by rw [Int.tmod_eq_emod_of_nonneg (by omega)]; omega, by omega⟩
  go_upto_if 92 with fail
  go_cut [19] from 44 to 256 (fun s19 wx => ∃ l : List UInt8, Hid (BV wx s19 l) ∧ 11 ≤ l.length ∧ l.length ≤ 100 ∧ Hid (Below wq.heap.size wq wx))
  case first =>
   refine rn_if92 w5 wq n nu cf gf r13 PQ hr13 hr13' hnb hp1 hp2 HNU HO5 k3 hgf _ _ _ _ _ _ _ _ _ _ _ _ _ _ _ _ _ _ _ _ _ _ _ _ _ _ _ _ _ _ _ _ _ _ _ _ _ _ _ _ _ _ _ _ _ _ _ _ _ _ _ _ _ _ _ _ _ _ _ _ _ _ _ _ _ _ _ _ _ _ _ _ _ _ _ _ _ _ _ _ _ _ _ _ _ _ _ _ _ _ _ _ _ _ _ _ _ _ _ _ _ _ _ _ _ _ _ _ _ _ _ _ _ _ _ _ _ _ _ _ _ _ _ _ _ _ _ _ _ _ _ _ _ _ _ _ _ _ _ _ _ _ _ _ _ _ _ _ _ _ _ _ _ _ _ _ _ _ _ _ _ _ _ _ _ _ _ _ _ _ _ _ _ _ _ _ _ _ _ _ _ _ _ _ _ _ _ _ _ _ _ _ _ _ _ _ _ _ _ _ _ _ _ _ _ _ _ _ _ _ _ _ _ _ _ _ _ _ _ _ _ _ _ _ _ _ _ _ _ _ _ _ _ _ _ _ _ _ _ _ _ _ _ _ _ _ _ _ _ _ _ _ _ _ _ ?_
   intros; rename_i hS_
   go_wp2
   go_meet
   exact hS_
  case rest =>
   clear HO5 k3 hgf hgf2 hr13 hr13' hp1 hp2
   obtain ⟨l1, HBV, hl1, hl2, k0⟩ := hcut
   obtain ⟨w6, rfl⟩ : ∃ w6 : World, w6 = wc := ⟨_, rfl⟩
   have HBV0 := HBV.out
   obtain ⟨Al, cl, rfl, hlc, hlm, -⟩ := HBV0
   obtain ⟨n1, hn1⟩ : ∃ n1, n1 = l1.length := ⟨_, rfl⟩
   have HN1 := Lib.hid hn1
   rw [← hn1] at HBV hl1 hl2 hlc ⊢
   clear hn1
   go_upto_if 104 with fail
   go_cut [19] from 44 to 256 (fun s19 wx => ∃ l : List UInt8, Hid (BV wx s19 l) ∧ 11 ≤ l.length ∧ l.length ≤ 100 ∧ Hid (Below wq.heap.size wq wx))
   case first =>
    by_cases h0 : r17 = 0
    ·subst h0
     obtain ⟨p, hp, hp'⟩ : ∃ p : Nat, Int.tmod ((n : Int).tdiv 17) 30 = (p : Int) ∧ (n : Int) / 17 % 30 = (p : Int) := ⟨n / 17 % 30, by rw [Int.tdiv_eq_ediv_of_nonneg (by omega), Int.tmod_eq_emod_of_nonneg (by omega)]; omega, by omega⟩
     obtain ⟨q, hq, hq', hq9⟩ : ∃ q : Nat, Int.tmod ((n : Int).tdiv 510) 9 = (q : Int) ∧ (n : Int) / 510 % 9 = (q : Int) ∧ q < 9 := ⟨n / 510 % 9, by rw [Int.tdiv_eq_ediv_of_nonneg (by omega), Int.tmod_eq_emod_of_nonneg (by omega)]; omega, by omega, by omega⟩
     obtain ⟨r3, hr3, hr3', hr33⟩ : ∃ r : Nat, Int.tmod (n : Int) 3 = (r : Int) ∧ (n : Int) % 3 = (r : Int) ∧ r < 3 := ⟨n % 3, by rw [Int.tmod_eq_emod_of_nonneg (by omega)]; omega, by omega, by omega⟩
     have hp64 : W.Is64 (p : Int) := by unfold W.Is64; omega
     have hq64 : W.Is64 ((q : Int) - 1) := by unfold W.Is64; omega
     have hr4 : (r3 : Int) ≤ (cl : Int) := by omega
     have hr5 : (0 : Int) ≤ (r3 : Int) := by omega
     have hr6 : r3 ≤ cl := by omega
     have hqw : IntKind.i64.wrap ((q : Int) - 1) = (q : Int) - 1 := by rw [IntKind.wrap_i64]; omega
     have HTK := Lib.hid (show BV w6 (.slice Al r3 cl) (l1.take r3) from BV.take HBV.out r3 (by have := HN1.out; omega))
     have HPK := Lib.hid (pk_bv (p : Int) ((q : Int) - 1) HTK.out hp64 hq64 (by rw [List.length_take]; omega))
     have HRG := Lib.hid (K.sealed_rng key (p : Int) ((q : Int) - 1) (l1.take r3) (by rw [List.length_take]; omega))
     clear hp64 hq64
     go_wp2_with fail
     refine HPK.out.mono ?_
     rintro e w7 ⟨v7, rfl, ho7, k4⟩
     obtain ⟨Ak, ck, rfl, -⟩ := own_form ho7
     have HSL := Lib.hid (rseal_bv key HK.out (BV.own (own_base ho7 (Nat.zero_le _))) (by have := HRG.out.2; unfold K.sealed at this; rw [List.length_append] at this; omega))
     have k6 := Lib.hid (Blw k0.out k4)
     clear ho7 k4
     go_wp2_with fail
     refine HSL.out.mono ?_
     rintro e w8 ⟨v8, rfl, ho8, k5⟩
     have k7 := Lib.hid (Blw k6.out k5)
     have HO8 := Lib.hid (BV.own (own_base ho8 (Nat.zero_le _)))
     clear ho8 k5
     go_wp2
     go_meet
     exact ⟨_, HO8, HRG.out.1, HRG.out.2, k7⟩
    ·have kd : ((r17 : Int) == 0) = false := by rw [beq_eq_false_iff_ne]; omega
     go_wp2
     go_meet
     exact ⟨l1, HBV, by rw [← HN1.out]; exact hl1, by rw [← HN1.out]; exact hl2, k0⟩
   case rest =>
    clear HBV k0 hl1 hl2 hlc hlm HN1 hr17 hr17'
    obtain ⟨l2, HBV, hl1, hl2, k0⟩ := hcut
    obtain ⟨w7, rfl⟩ : ∃ w7 : World, w7 = wc := ⟨_, rfl⟩
    have HBV0 := HBV.out
    obtain ⟨Al, cl, rfl, hlc, hlm, -⟩ := HBV0
    obtain ⟨n1, hn1⟩ : ∃ n1, n1 = l2.length := ⟨_, rfl⟩
    have HN1 := Lib.hid hn1
    rw [← hn1] at HBV hl1 hl2 hlc ⊢
    clear hn1
    go_upto_if 122 with fail
    go_cut [19] from 44 to 256 (fun s19 wx => ∃ l : List UInt8, Hid (BV wx s19 l) ∧ l.length ≤ 100 ∧ Hid (Below wq.heap.size wq wx))
    case first =>
     by_cases h0 : r19 = 0
     ·subst h0
      obtain ⟨r12, hr12, hr12', hr33⟩ : ∃ r : Nat, Int.tmod (n : Int) 12 = (r : Int) ∧ (n : Int) % 12 = (r : Int) ∧ r < 12 := ⟨n % 12, by rw [Int.tmod_eq_emod_of_nonneg (by omega)]; omega, by omega, by omega⟩
      have hr4 : (r12 : Int) ≤ (cl : Int) := by omega
      have hr5 : (0 : Int) ≤ (r12 : Int) := by omega
      have hr6 : r12 ≤ cl := by omega
      have HTK := Lib.hid (show BV w7 (.slice Al r12 cl) (l2.take r12) from BV.take HBV.out r12 (by have := HN1.out; omega))
      go_wp2
      go_meet
      exact ⟨_, HTK, by rw [List.length_take]; omega, k0⟩
     ·have ke : ((r19 : Int) == 0) = false := by rw [beq_eq_false_iff_ne]; omega
      go_wp2
      go_meet
      exact ⟨l2, HBV, by rw [← HN1.out]; exact hl2, k0⟩
    case rest =>
     clear HBV k0 hl1 hl2 hlc hlm HN1 hr19 hr19'
     obtain ⟨l3, HBV, hl1, k0⟩ := hcut
     obtain ⟨w8, rfl⟩ : ∃ w8 : World, w8 = wc := ⟨_, rfl⟩
     refine (show ∀ a w_, Code.wp Try.prog ((seqIn 22 ((Try.f3.body).getD .skip)).getD .skip) _ a w_ → _ from by assumption) _ _ ?_
     refine rn_tail w wq w8 ge gm i gq np cq gt ct x t ef mf Sf Rf ow P T key _ l3 hi hx3 hx4 ht2 ht3 ht4 HT HM HI HB HBV hl1 k0 _ _ _ _ _ _ _ _ _ _ _ _ _ _ _ _ _ _ _ _ _ _ _ _ _ _ _ _ _ _ _ _ _ _ _ _ _ _ _ _ _ _ _ _ _ _ _ _ _ _ _ _ _ _ _ _ _ _ _ _ _ _ _ _ _ _ _ _ _ _ _ _ _ _ _ _ _ _ _ _ _ _ _ _ _ _ _ _ _ _ _ _ _ _ _ _ _ _ _ _ _ _ _ _ _ _ _ _ _ _ _ _ _ _ _ _ _ _ _ _ _ _ _ _ _ _ _ _ _ _ _ _ _ _ _ _ _ _ _ _ _ _ _ _ _ _ _ _ _ _ _ _ _ _ _ _ _ _ _ _ _ _ _ _ _ _ _ _ _ _ _ _ _ _ _ _ _ _ _ _ _ _ _ _ _ _ _ _ _ _ _ _ _ _ _ _ _ _ _ _ _ _ _ _ _ _ _ _ _ _ _ _ _ _ _ _ _ _ _ _ _ _ _ _ _ _ _ _ _ _ _ _ _ _ _ _ _ _ _ _ _ _ _ _ _ _ _ _ _ _ _ ?_
     intros; rename_i hS_
     obtain ⟨_, _, _, h1_, h2_, h3_⟩ := hS_
     go_wp2
     go_meet
     exact ⟨_, _, _, _, _, h1_, h2_, h3_⟩
end Go.Proofs.Ytgdibcgphjmofaa
