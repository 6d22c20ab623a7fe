/-
 CLAIMS: the law ClaimBytes, by the engine.
-/
import Derived.Test.YtjegnmlchioofaaGreatDoorShQ
import Derived.Test.YtjegnmlchioofaaGreatDoorCaB
import Derived.Test.YtjegnmlchioofaaGreatDoorEuA
import Derived.Test.YtjegnmlchioofaaGreatDoorShA
namespace Go.Proofs.YtjegnmlchioofaaGreatDoor.E
open Go.RowKit
set_option linter.unusedVariables false
section
variable {P : Program} {w : World}
def ib (x : Int) : V := .k (.int .u8 x)
def bT (P : Program) (t : TypeId) : Bool := match P.underlying t with
 | some (.int .u8) => true
 | _ => false
theorem bT_of {t : TypeId} (h : bT P t = true) : P.underlying t = some (.int .u8) := by
 unfold bT at h
 split at h
 · assumption
 · cases h
theorem part_b {t : TypeId} (he : P.underlying t = some (.int .u8)) {xs : Array Value} {off : Nat} {v : Value} (hx : xs[off]? = some v) : (part t xs off).run P w = .ok v w := by simp [part, isAgg, run_under he, hx]
theorem eqItems_b (d : Nat) {e : TypeId} (he : P.underlying e = some (.int .u8)) : ∀ (n o : Nat) (xs ys : List Int) (pre pre' : List Value), xs.length = n → ys.length = n → pre.length = o → pre'.length = o → (Op.eqItems (d + 1) e 1 (pre ++ xs.map (Value.int .u8)).toArray (pre' ++ ys.map (Value.int .u8)).toArray (List.range' o n)).run P w = .ok (decide (xs = ys)) w
 | 0, o, xs, ys, pre, pre', hx, hy, _, _ => by
  have hx : xs = [] := List.length_eq_zero_iff.1 hx
  have hy : ys = [] := List.length_eq_zero_iff.1 hy
  subst hx; subst hy
  simp [Op.eqItems]
 | n + 1, o, x :: xs, y :: ys, pre, pre', hx, hy, hp, hp' => by
  have ih := eqItems_b d he n (o + 1) xs ys (pre ++ [.int .u8 x]) (pre' ++ [.int .u8 y]) (by simpa using hx) (by simpa using hy) (by simp [hp]) (by simp [hp'])
  rw [List.append_assoc, List.append_assoc] at ih
  have e1 := part_b (w := w) he (xs := (pre ++ .int .u8 x :: xs.map (Value.int .u8)).toArray) (off := o * 1) (at_end (by omega))
  have e2 := part_b (w := w) he (xs := (pre' ++ .int .u8 y :: ys.map (Value.int .u8)).toArray) (off := o * 1) (at_end (by omega))
  have e3 := run_equalIn_int (P := P) w d e .u8 .u8 x y he
  simp only [List.range'_succ, List.map_cons, Op.eqItems, Sem.run_bind, e1, e2, e3, Result.andThen_ok]
  by_cases hxy : x = y
  · subst hxy
    rw [if_neg (by simp)]
    simpa using ih
  · rw [if_pos (by simp [hxy])]
    simp [hxy]
 | n + 1, o, [], ys, pre, pre', hx, _, _, _ => by simp at hx
 | n + 1, o, x :: xs, [], pre, pre', _, hy, _, _ => by simp at hy
def bOk (P : Program) (T : TypeId) (n : Nat) : Bool := match P.underlying T with
 | some (.array k e) => Nat.beq k n && (bT P e && (Nat.beq (P.cellsOf e) 1 && (P.info? e).isSome))
 | _ => false
theorem kv_ib (l : List Int) : (l.map ib).map kv = l.map (Value.int .u8) := by rw [List.map_map]; rfl
theorem EqA.arrB {T : TypeId} {n : Nat} (h : bOk P T n = true) {xs ys : List Int} (hx : xs.length = n) (hy : ys.length = n) : EqA P T (xs.map ib) (ys.map ib) (decide (xs = ys)) := fun w => by
 unfold bOk at h
 split at h
 · rename_i k e hu
   simp only [Bool.and_eq_true] at h
   obtain ⟨h1, h2, h3, h4⟩ := h
   have h1 := Nat.eq_of_beq_eq_true h1
   have h3 := Nat.eq_of_beq_eq_true h3
   subst h1
   obtain ⟨i, hi⟩ := Option.isSome_iff_exists.1 h4
   rw [kv_ib, kv_ib]
   show (Op.equalIn 10000 T _ _).run P w = _
   rw [run_equalIn_array w 9999 _ _ hu hi, h3, List.range_eq_range']
   exact eqItems_b 9998 (bT_of h2) k 0 xs ys [] [] hx hy rfl rfl
 · cases h
end
namespace Hs
/-- Two digests are compared. -/
def dgE (W W' : Nat → UInt8) : Bool := decide ((List.range 16).map (fun i => ((W i).toNat : Int)) = (List.range 16).map (fun i => ((W' i).toNat : Int)))
theorem dgE_refl (W : Nat → UInt8) : dgE W W = true := decide_eq_true rfl
theorem w16_ib (W : Nat → UInt8) : w16 W = ((List.range 16).map (fun i => ((W i).toNat : Int))).map ib := by
 unfold w16
 rw [List.map_map]
 rfl
theorem e_eqD (W W' : Nat → UInt8) : EqA PP TD (w16 W) (w16 W') (dgE W W') := by
 rw [w16_ib, w16_ib]
 exact EqA.arrB (n := 16) (by kernel_rfl) (by simp) (by simp)
end Hs
end Go.Proofs.YtjegnmlchioofaaGreatDoor.E
namespace Go.Proofs.YtjegnmlchioofaaGreatDoor.E
open Go.RowKit
set_option linter.unusedVariables false
set_option linter.unusedSimpArgs false
section
variable {P : Program} {w : World}
def mkAq (T : TypeId) (xs : List Operand) : Op := .call { callee := .builtin .append, args := #[xs.getD 0 (.tmp 0), xs.getD 1 (.tmp 0)], argTypes := #[T, T] }
def apO (T : TypeId) (o : Oper) : Oper := { o with op := mkAq T [.tmp 0, .tmp 1], guard := none }
noncomputable def apS (b j : Nat) (x : HO) (l2 : List (List V)) : St := ⟨[.ow b, .sl l2], (List.replicate j HO.dead).set b x⟩
theorem x_apq {T e b j n bytes N : Nat} {l l2 l' : List (List V)} (hT : P.underlying T = some (.slice e)) (hap : apT P e = some (n, bytes)) (hbj : b < j) (happ : l ++ l2 = l') (h0 : 0 < l2.length) (hn : l'.length ≤ N) (hlim : apLim N bytes = true) (hz : ∀ cs ∈ l2, cs.length = n ∧ cs.all one = true) :
  Ext P (mkAq T) [.ow b, .sl l2] [(b, .rw e n l)] [(j, .dead), (b, .dead)] (.sl l') := by
 intro B M h m w a o xs ho K hl hr hrd hws
 obtain ⟨x, y, rfl⟩ := two_of hl
 have hx := hr 0 x _ rfl rfl
 have hy := hr 1 y _ rfl rfl
 have hb : h b = .rw e n l := hrd (b, .rw e n l) (List.mem_singleton.2 rfl)
 obtain ⟨hj1, hj2⟩ := hws j (by simp) (by simp; omega)
 let a' : Act := { a with tmps := #[a.eval x, a.eval y] }
 have hlen : (apS b j (.rw e n l) l2).h.length = j := by simp [apS]
 have hho : (apS b j (.rw e n l) l2).ho b = .rw e n l := by simp [apS, St.ho, hbj]
 have e0 : aop P (apO T o) (apS b j (.rw e n l) l2) ([.aps l l2 l' N n happ h0 hn hz] : List (Fa P)) = some ⟨.ow j, [(j, .rw e n l'), (b, .dead)], [b], [], [([.sl l, .sl l2], [.sl l, .sl l2])]⟩ := by
  have n1 : Nat.beq T T = true := Nat.beq_refl T
  have n2 : Nat.beq n n = true := Nat.beq_refl n
  have n3 : Nat.beq e e = true := Nat.beq_refl e
  have s1 : (apS b j (.rw e n l) l2).evT P T (.tmp 0) = .ow b := rfl
  have s2 : (apS b j (.rw e n l) l2).ev (.tmp 1) = .sl l2 := rfl
  show (match P.underlying T with
       | some (.slice e) => match Nat.beq T T, apT P e with
         | true, some (n, bytes) => appV (apS b j (.rw _ _ l) l2) e n bytes ((apS b j (.rw _ _ l) l2).evT P T (.tmp 0)) ((apS b j (.rw _ _ l) l2).ev (.tmp 1)) _
         | _, _ => none
       | _ => none) = _
  rw [hT]
  simp only [n1, hap, s1, s2, appV, hho, n2, n3, hlim, hlen, Bool.and_self]
 have hop : Opd w (Av M h m) m (apO T o) a' (apS b j (.rw e n l) l2) := by
  refine ⟨fun t ht => ?_, K.gl⟩
  have : t = 0 ∨ t = 1 := by simpa [looks, apO, mkAq, Op.operands, Call.operands] using ht
  rcases this with rfl | rfl
  · exact hx
  · exact hy
 have G := append_ok (o := apO T o) (a := a') K rfl rfl e0 (fun p hp => by rw [List.mem_singleton.1 hp]) hop (fun c hc => by rw [List.mem_singleton.1 hc, hb, hho]) (fun c hc hlt => by
   rw [hlen] at hlt
   simp only [List.map_cons, List.map_nil, List.mem_cons, List.not_mem_nil, or_false] at hc
   rcases hc with rfl | rfl
   · omega
   · rw [hb, hho]) (fun c hc hle => by
   rw [hlen] at hle
   simp only [List.map_cons, List.map_nil, List.mem_cons, List.not_mem_nil, or_false] at hc
   rcases hc with rfl | rfl
   · exact ⟨hj1, hj2⟩
   · omega)
 have heq : execOp a'.eval (apO T o) = execOp a.eval o := by
  have e1 : a'.eval (.tmp 0) = a.eval x := rfl
  have e2 : a'.eval (.tmp 1) = a.eval y := rfl
  simp [execOp, apO, mkAq, ho, resolve, e1, e2, invoke, builtin]
 have G2 : Exec P o a w (Post B M h m w [(j, .rw e n l'), (b, .dead)] (.ow j)) := by
  unfold Goal_ Exec at G
  rw [heq] at G
  exact G
 refine Exec.imp G2 fun u w' => ?_
 rintro ⟨m', K', hr', hmo, hbl, hn'⟩
 have hu : upds h [(j, HO.rw e n l'), (b, .dead)] = upd (upd h b .dead) j (.rw e n l') := rfl
 have hk : upd (upd (upd h b .dead) j (.rw e n l')) j .dead = upds h [(j, .dead), (b, .dead)] := by
  funext c
  by_cases hc : c = j
  · subst hc; rw [upd_eq]; exact upd_eq.symm
  · rw [upd_ne hc, upd_ne hc]; exact (upd_ne hc).symm
 rw [hu] at K' hr' hmo
 have kk : Ok B M (upds h [(j, .dead), (b, .dead)]) m' w' := by rw [← hk]; exact K'.kill j
 have mk : Mo w' (Av M (upd (upd h b .dead) j (.rw e n l')) m') m' w' (Av M (upds h [(j, .dead), (b, .dead)]) m') m' := by rw [← hk]; exact Mo.kill
 have hy2 := exp_rep (h0 := fun _ => .rw e n l') (A' := Av M (upds h [(j, .dead), (b, .dead)]) m') K' (fun g e => (mk.av g e).elim id fun h => absurd (kk.av_lt e) (by omega)) 2 (.ow j) (.sl l') [j] rfl (fun c hc => by
   obtain rfl := List.mem_singleton.1 hc
   refine ⟨upd_eq, fun v g h1 h2 => ?_⟩
   have := kills_out (ks := [c]) K' (List.mem_singleton.2 rfl) (by rw [upd_eq]; rfl) h1 h2
   rw [show upds (upd (upd h b .dead) c (.rw e n l')) (kills [c]) = upds h [(c, .dead), (b, .dead)] from hk] at this
   exact this) _ hr'
 exact ⟨m', kk, hy2.mo Mo.up, hmo.trans mk, hbl, fun c hc => by simpa using hn' c hc⟩
/-- The same, where what is appended may have no elements. -/
theorem x_apz {T e b j n bytes N : Nat} {l l2 l' : List (List V)} (hT : P.underlying T = some (.slice e)) (hap : apT P e = some (n, bytes)) (hbj : b < j) (happ : l ++ l2 = l') (hn : l'.length ≤ N) (hlim : apLim N bytes = true) (hz : ∀ cs ∈ l2, cs.length = n ∧ cs.all one = true) :
  Ext P (mkAq T) [.ow b, .sl l2] [(b, .rw e n l)] [(j, .dead), (b, .dead)] (.sl l') := by
 by_cases h0 : 0 < l2.length
 · exact x_apq hT hap hbj happ h0 hn hlim hz
 have hl2 : l2 = [] := List.eq_nil_of_length_eq_zero (by omega)
 subst hl2
 rw [List.append_nil] at happ
 subst happ
 intro B M h m w a o xs ho K hl hr hrd hws
 obtain ⟨x, y, rfl⟩ := two_of hl
 have hx := hr 0 x _ rfl rfl
 have hy := hr 1 y _ rfl rfl
 have hb : h b = .rw e n l := hrd (b, .rw e n l) (List.mem_singleton.2 rfl)
 obtain ⟨hj1, hj2⟩ := hws j (by simp) (by simp; omega)
 simp only [mkAq, List.getD_cons_zero, List.getD_cons_succ] at ho
 obtain ⟨i, z, i1, i2, i3, i4, i5, i6⟩ := apT_of hap
 have hs : szT P e = some i.size := by unfold szT; rw [i1]; rfl
 obtain ⟨v1, xs1, h1, h2, h3, h4, h5⟩ := K.rw b e n l hb
 have hkd : upd h b .dead = upds h [(j, .dead), (b, .dead)] := by
  funext c
  show _ = upd (upd h b .dead) j .dead c
  by_cases hc : c = j
  · subst hc; rw [upd_eq, upd_ne (by omega), hj1]
  · rw [upd_ne hc]
 have kk : Ok B M (upds h [(j, .dead), (b, .dead)]) m w := by rw [← hkd]; exact K.kill b
 have mk : Mo w (Av M h m) m w (Av M (upds h [(j, .dead), (b, .dead)]) m) m := by rw [← hkd]; exact Mo.kill
 have hy2 := exp_rep (h0 := fun _ => .rw e n l) (A' := Av M (upds h [(j, .dead), (b, .dead)]) m) K (fun g e => (mk.av g e).elim id fun h => absurd (kk.av_lt e) (by omega)) 2 (.ow b) (.sl l) [b] rfl (fun c hc => by
   obtain rfl := List.mem_singleton.1 hc
   refine ⟨hb, fun v g h1 h2 => ?_⟩
   have := kills_out (ks := [c]) K (List.mem_singleton.2 rfl) (by rw [hb]; rfl) h1 h2
   rw [show upds h (kills [c]) = upds h [(j, .dead), (c, .dead)] from hkd] at this
   exact this) _ hx
 generalize hu : a.eval x = u at hx hy2
 generalize hv : a.eval y = v at hy
 cases hx with
 | ow _ _ ad n' c hm =>
  rw [h1] at hm
  injection hm with hm
  subst hm
  have hle : n' ≤ c := by
   rcases h3.2 with ⟨e1, e2⟩ | ⟨g, cap, cur, e1, _, _, e2, _⟩
   · injection e1 with e1 e3 e4; omega
   · injection e1 with e1 e3 e4; omega
  cases hy with
  | sl _ ad2 b2 o2 c2 z2 _ us g1 g2 g3 g4 g5 g6 =>
   refine Exec.val (u := .slice ad n' c) (w' := w) ?_ ⟨m, kk, hy2.mo Mo.up, mk, Bl.refl _ _, fun c hc => .inl hc⟩
   have := append_none (P := P) (w := w) (ty := o.type) (ad := ad) (X := ad2) (c2 := c2) hT hs hle
   simp [execOp, ho, resolve, invoke, builtin, hu, hv, this]
end
end Go.Proofs.YtjegnmlchioofaaGreatDoor.E
namespace Go.Proofs.YtjegnmlchioofaaGreatDoor.E.Ca
open Go.RowKit Hs
set_option linter.unusedVariables false
set_option linter.unusedSimpArgs false
section
variable {more B C E raw : List UInt8} {at_2 by_ n : Int} {T O : List CM} {Ls : List (List UInt8)} {i j a k : Nat} {l : List Int} {q r : CQ} {c b : UInt8}
noncomputable abbrev fCB : Func := fnOf PP 3
abbrev GCB (td : List Item) (σ : St) : Prop := Gd PP 3 (bo true) td σ
def rwB (Ls : List (List UInt8)) : List (List V) := Ls.map fun B => [.sl (byL B)]
noncomputable def cbX (at_2 by_ : Int) (T : List CM) (Ls : List (List UInt8)) (i : Nat) : St := at_ fCB [(1, ni at_2), (2, ni by_), (9, .sl (T.map dC)), (10, .ow 0), (11, ni (i : Int))] [.rw 23 1 (rwB Ls)]
noncomputable def cbM (at_2 by_ : Int) (T : List CM) (Ls : List (List UInt8)) (i : Nat) (B C : List UInt8) : St := at_ fCB [(1, ni at_2), (2, ni by_), (9, .sl (T.map dC)), (10, .ow 0), (11, ni (i : Int)), (12, .sl (byL B)), (13, .sl (byL C))] [.rw 23 1 (rwB Ls)]
noncomputable def cbY (Ls : List (List UInt8)) (i : Nat) : St := at_ fCB [(10, .sl (rwB Ls)), (14, ni (i : Int))] []
noncomputable def dg2 (E : List UInt8) : Nat → UInt8 := dgW 2 [E]
theorem rwB_len : (rwB Ls).length = Ls.length := by unfold rwB; rw [List.length_map]
theorem rwB_app : rwB Ls ++ [[.sl (byL B)], [.sl (byL C)]] = rwB (Ls ++ [B, C]) := by unfold rwB; rw [List.map_append]; rfl
theorem rwB_at (h : i < Ls.length) : (rwB Ls)[i]? = some [.sl (byL (Ls.getD i []))] := by
 unfold rwB
 rw [List.getElem?_map, getD_lt (d := []) h]
 rfl
theorem inU_one (tag : Nat) (E : List UInt8) : (inU tag [E]).length ≤ E.length + 10 := by
 have := bsE_len E
 unfold inU
 simp
 omega
theorem e_of2 (h : E.length ≤ 100000) : Pure PP 12 [ni ((2 : Nat) : Int), .sl [[sV E]]] (.ag (w16 (dg2 E))) := by
 have hi := inU_one 2 E
 exact Hs.e_of 2 [E] (by omega) (by simp) (fun p hp => by rw [List.mem_singleton.1 hp]; omega) (by omega)
theorem e_cdig (h : Sq q) : Pure PP 11 [.ag (dQ q)] (.ag (w16 (dg2 (encC q)))) := by
 have hl := h.len
 have e := Pure.ro (e_cenc h)
 have o := e_of2 (E := encC q) (by omega)
 generalize encC q = E at *
 exact tr [cl e, .str (byL E) E rfl, .ro, cl o] (by kernel_rfl)
theorem bL_at (h : i < E.length) : (byL E)[i]? = some [.k (.int .u8 ((E.getD i 0).toNat : Int))] := by
 unfold byL
 rw [List.getElem?_map, getD_lt (d := 0) h]
 rfl
theorem bL_set (c : UInt8) : (byL E).set i [.k (.int .u8 (c.toNat : Int))] = byL (E.set i c) := by unfold byL; rw [List.map_set]
theorem bL_take (h : a ≤ B.length) : ((byL B).take a).drop 0 = byL (B.take a) := by
 unfold byL
 rw [List.drop_zero, List.map_take]
theorem u8_ex {a : Int} (h : 0 ≤ a ∧ a < 256) : ∃ c : UInt8, a = (c.toNat : Int) := ⟨UInt8.ofNat a.toNat, by
 rw [UInt8.toNat_ofNat']
 omega⟩
/-- A round of the first loop: its first part. -/
theorem cb_1 (h : i < T.length) (hT : T.length ≤ 1000) (hq : Gq (T.getD i c0) q) (hB : B = encC q) (ha : W.Is64 at_2) (next : ∀ C : List UInt8, C.length = B.length → GCB (rg fCB 11) (cbM at_2 by_ T Ls i B C)) : GCB (lp fCB 0) (cbX at_2 by_ T Ls i) := by
 have ei := tm_at h hq.e
 have hlen := hq.s.len
 have ce := Pure.ro (e_cenc hq.s)
 have ce6 := Pure.ro (e_cenc6 hq.s)
 have cd := e_cdig hq.s
 have sm := Go.Proofs.YtjegnmlchioofaaGreatDoor.E.e_same1 (encC q) (encC q) (by omega)
 rw [decide_eq_true rfl] at sm
 have o := e_of2 (E := encC q) (by omega)
 rw [← hB] at ce ce6 cd sm o hlen
 have eq := e_eqD (dg2 B) (dg2 B)
 have nd : (!dgE (dg2 B) (dg2 B)) = false := by rw [dgE_refl]; rfl
 have hl : (byL B).length = B.length := byL_len B
 have e74 : ni ((byL B).length : Int) = ni (B.length : Int) := by rw [hl]
 have h75 : ((B.length : Int) == 0) = false := by
  have : (B.length : Int) ≠ 0 := by omega
  simpa using this
 have e83 : ni ((byL B).length : Int) = ni ((B.length - 1 + 1 : Nat) : Int) := by rw [hl]; congr 3; omega
 have a1 := e_around ha (B.length - 1)
 have ri := rnd_in at_2 (B.length - 1)
 obtain ⟨k1, hk1⟩ : ∃ k : Nat, rnd at_2 (B.length - 1) = (k : Int) := ⟨(rnd at_2 (B.length - 1)).toNat, by omega⟩
 rw [hk1] at a1 ri
 have g1 : k1 < B.length := by omega
 have s1 := bL_at g1
 have k0 := (B.getD k1 0).toNat_lt
 obtain ⟨b, hb⟩ : ∃ b : UInt8, IntKind.u8.wrap by_ = (b.toNat : Int) := u8_ex (by rw [IntKind.wrap_u8]; omega)
 have k2 := b.toNat_lt
 obtain ⟨c1, x1⟩ : ∃ c1 : UInt8, bits BinOp.xor IntKind.u8 ((B.getD k1 0).toNat : Int) (b.toNat : Int) = (c1.toNat : Int) := by
  have hx : (B.getD k1 0).toNat ^^^ b.toNat < 2 ^ 8 := Nat.xor_lt_two_pow k0 k2
  rw [u8_xor_nat _ _ k0 k2]
  exact u8_ex ⟨by omega, by omega⟩
 have u1 := bL_set (E := B) (i := k1) c1
 have nx := next (B.set k1 c1) (List.length_set ..)
 obtain ⟨C, hC⟩ : ∃ C, C = B.set k1 c1 := ⟨_, rfl⟩
 rw [← hC] at u1 nx
 unfold cbM at nx
 unfold cbX
 clear hB hq
 have hlt : ltS T i = true := ltS_t h
 have h88 : V.k (.int .u8 (IntKind.u8.wrap by_)) = .k (.int .u8 (b.toNat : Int)) := by rw [hb]
 exact .to mo_ [.fz 13] [1, 2, 9, 10, 11, 12, 13] [0] 1 [ye hlt, .sel _ _ _ ei, cl ce, .sel _ _ _ ei, cl ce6, cl sm, nf, .sel _ _ _ ei, cl cd, .str (byL B) B rfl, .ro, cl o, .eqa _ _ _ _ eq, na nd, .eqv 74 _ _ e74, na h75, .aps [] (byL B) (byL B) 100000 1 rfl (by omega) (by omega) (byL_ok _), .eqv 83 _ _ e83, cl a1, .sel _ _ _ s1, .sel _ _ _ s1, .eqv 88 _ _ h88, .eqv 89 (.k (.int .u8 (bits BinOp.xor IntKind.u8 ((B.getD k1 0).toNat : Int) (b.toNat : Int)))) (.k (.int .u8 (c1.toNat : Int))) (by rw [x1]), .sel _ _ _ s1, .upd _ _ _ _ _ s1 u1] nx (by kernel_rfl)
/-- Its second part. -/
theorem cb_2 (hB : 0 < B.length ∧ B.length ≤ 100000) (hL : Ls.length ≤ 1000) (ha : W.Is64 at_2) (hi : i ≤ 1000) (next : ∀ a : Nat, a < B.length → GCB (lp fCB 0) (cbX at_2 by_ T (Ls ++ [C, B.take a]) (i + 1))) : GCB (rg fCB 11) (cbM at_2 by_ T Ls i B C) := by
 have hl : (byL B).length = B.length := byL_len B
 have e96 : ni ((byL B).length : Int) = ni ((B.length - 1 + 1 : Nat) : Int) := by rw [hl]; congr 3; omega
 have a1 := e_around ha (B.length - 1)
 have ri := rnd_in at_2 (B.length - 1)
 obtain ⟨k1, hk1⟩ : ∃ k : Nat, rnd at_2 (B.length - 1) = (k : Int) := ⟨(rnd at_2 (B.length - 1)).toNat, by omega⟩
 rw [hk1] at a1 ri
 have nx := next k1 (by omega)
 have hs := bL_take (B := B) (a := k1) (by omega)
 have ap := rwB_app (Ls := Ls) (B := C) (C := B.take k1)
 have al : (rwB (Ls ++ [C, B.take k1])).length ≤ 2000 := by rw [rwB_len, List.length_append]; simp; omega
 unfold cbX at nx
 unfold cbM
 exact .to mo_ [.mv 0 2] [1, 2, 9, 10, 11] [0] 1 [.eqv 96 _ _ e96, cl a1, .slc (byL B) 0 k1 1 (byL (B.take k1)) hs (by omega) (byL_z _), .app _ _ _ 2000 ap (Nat.zero_lt_succ _) al, inc 46 i (by omega)] nx (by kernel_rfl)
/-- A round of the second loop. -/
theorem cb_3 (h : i < Ls.length) (hl : (Ls.getD i []).length ≤ 1000000) (hi : i ≤ 1000) (next : GCB (lp fCB 1) (cbY Ls (i + 1))) : GCB (lp fCB 1) (cbY Ls i) := by
 have at1 := rwB_at h
 have d1 := e_cdec (Ls.getD i []) hl
 have d2 := e_cdec6 (Ls.getD i []) hl
 have e103 : ni ((rwB Ls).length : Int) = ni (Ls.length : Int) := by rw [rwB_len]
 have hlt : decide ((i : Int) < (Ls.length : Int)) = true := decide_eq_true (by omega)
 unfold tuC at d1 d2
 have s1 := e_csame (decC (Ls.getD i [])).1 (decC (Ls.getD i [])).1
 have s2 := e_csame6 (decC (Ls.getD i [])).1 (decC (Ls.getD i [])).1
 rw [decide_eq_true (eqP_iff.2 rfl)] at s1 s2
 have h1 : ((decC (Ls.getD i [])).2.2 != (decC (Ls.getD i [])).2.2) = false := by simp
 have h2 : (((decC (Ls.getD i [])).2.1 : Int) != ((decC (Ls.getD i [])).2.1 : Int)) = false := by simp
 generalize (decC (Ls.getD i [])).2.1 = n at *
 generalize (decC (Ls.getD i [])).2.2 = e at *
 generalize (decC (Ls.getD i [])).1 = q at *
 generalize Ls.getD i [] = B at *
 unfold cbY at next ⊢
 exact .to mo_ [] [10, 14] [] 0 [.eqv 103 _ _ e103, ye hlt, .sel _ _ _ at1, cl d1, .sel _ _ _ at1, cl d2, na h1, na h2, cl s1, nf, cl s2, nf, inc 106 i (by omega)] next (by kernel_rfl)
theorem ap_z (b j : Nat) (hbj : b < j) (R Q : List UInt8) (hn : R.length + Q.length ≤ 100000) : Ext PP (mkAq 23) [.ow b, .sl (byL Q)] [(b, .rw 5 1 (byL R))] [(j, .dead), (b, .dead)] (.sl (byL (R ++ Q))) := x_apz (e := 5) (n := 1) (bytes := 1) (N := 100000) (by kernel_rfl) (by kernel_rfl) hbj (Go.Proofs.YtjegnmlchioofaaGreatDoor.E.byL_app R Q) (by rw [Go.Proofs.YtjegnmlchioofaaGreatDoor.E.byL_len, List.length_append]; exact hn) (by kernel_rfl) (byL_ok _)
noncomputable def cb0 (at_2 by_ : Int) (raw : List UInt8) (T : List CM) : St := at_ fCB [(1, ni at_2), (2, ni by_), (3, .sl (byL raw)), (9, .sl (T.map dC))] []
/-- The list at first. -/
theorem cb_4 (next : ∀ Ls : List (List UInt8), Ls.length = 4 → (∀ B ∈ Ls, B.length ≤ 100000) → GCB (lp fCB 0) (cbX at_2 by_ T Ls 0)) : GCB (rg fCB 2) (cb0 at_2 by_ raw T) := by
 have cf := Pure.ro (e_few1 raw 300 (by decide))
 have i64 : ∀ x ∈ ([1, 2, 3, 0, 4] : List Int), W.Is64 x := fun x hx => by
  simp only [List.mem_cons, List.not_mem_nil, or_false] at hx
  rcases hx with rfl | rfl | rfl | rfl | rfl <;> exact ⟨by decide, by decide⟩
 have w5 := e_wints i64 (by decide)
 have w4 := Pure.ro (e_wints (l := [1, 2, 3, 0]) (fun x hx => i64 x (by
  simp only [List.mem_cons, List.not_mem_nil, or_false] at hx ⊢
  omega)) (by decide))
 have w1 := Pure.ro (e_wints (l := [1]) (fun x hx => i64 x (by
  simp only [List.mem_cons, List.not_mem_nil, or_false] at hx ⊢
  omega)) (by decide))
 have l5 := W.encI_le [1, 2, 3, 0, 4]
 have l4 := W.encI_le [1, 2, 3, 0]
 have l1 := W.encI_le [1]
 simp only [List.length_cons, List.length_nil] at l5 l4 l1
 have lr : (raw.take 300).length ≤ 300 := by rw [List.length_take]; omega
 generalize W.encI [1, 2, 3, 0, 4] = W5 at *
 generalize W.encI [1, 2, 3, 0] = W4 at *
 generalize W.encI [1] = W1 at *
 generalize raw.take 300 = Q at *
 have a1 := ap_z 1 2 (by omega) W5 Q (by omega)
 have a2 := ap_z 5 7 (by omega) W5 W1 (by omega)
 have nx := next [Q, W5 ++ Q, W4, W5 ++ W1] rfl (fun B hB => by
  simp only [List.mem_cons, List.not_mem_nil, or_false] at hB
  rcases hB with rfl | rfl | rfl | rfl
  · omega
  · rw [List.length_append]; omega
  · omega
  · rw [List.length_append]; omega)
 unfold cbX at nx
 unfold cb0
 exact .to mo_ [.mv 0 8] [1, 2, 9, 10, 11] [0] 1 [cl cf, .ro, cl w5, cl cf, .ext (some 32) _ _ _ _ _ a1, .ro, cl w4, .ro, cl w5, .ro, cl w1, .ext (some 39) _ _ _ _ _ a2] nx (by kernel_rfl)
theorem cb_all (hT : T.length ≤ 20) (hT2 : ∀ c ∈ T, ∃ q, Gq c q) (ha : W.Is64 at_2) (raw : List UInt8) : GCB (rg fCB 2) (cb0 at_2 by_ raw T) := by
 refine cb_4 fun L0 h40 hL0 => ?_
 refine Gd.loop (fun z : Nat × List (List UInt8) => cbX at_2 by_ T z.2 z.1) (fun z => z.1 ≤ T.length ∧ z.2.length = 4 + 2 * z.1 ∧ ∀ B ∈ z.2, B.length ≤ 100000) (fun z => T.length - z.1) ?_ (0, L0) ⟨Nat.zero_le _, by simp [h40], hL0⟩
 rintro ⟨i, Ls⟩ ⟨hi, hl, hB⟩ ih
 simp only at hi hl hB ih
 by_cases h : i < T.length
 · have hm : T.getD i c0 ∈ T := by rw [List.getD_eq_getElem?_getD, List.getElem?_eq_getElem h]; exact List.getElem_mem _
   obtain ⟨q, hq⟩ := hT2 _ hm
   have hlen := hq.s.len
   refine cb_1 h (by omega) hq rfl ha fun C hC => ?_
   have hLs : Ls.length ≤ 1000 := by omega
   refine cb_2 (B := encC q) ⟨by omega, by omega⟩ hLs ha (by omega) fun a hla => ?_
   exact ih (i + 1, Ls ++ [C, (encC q).take a]) ⟨h, by simp only [List.length_append, List.length_cons, List.length_nil]; omega, fun B hb => by
    rcases List.mem_append.1 hb with hb | hb
    · exact hB B hb
    · simp only [List.mem_cons, List.not_mem_nil, or_false] at hb
      rcases hb with rfl | rfl
      · omega
      · rw [List.length_take]; omega⟩ (by simp only; omega)
 · have hlt : ltS T i = false := ltS_f h
   have fin : GCB (lp fCB 1) (cbY Ls 0) := by
    refine Gd.loop (cbY Ls) (fun j => j ≤ Ls.length) (fun j => Ls.length - j) ?_ 0 (Nat.zero_le _)
    intro j hj ihj
    by_cases g : j < Ls.length
    · have hm : Ls.getD j [] ∈ Ls := List.mem_of_getElem? (getD_lt g)
      exact cb_3 g (by have := hB _ hm; omega) (by omega) (ihj (j + 1) g (by omega))
    · have e103 : ni ((rwB Ls).length : Int) = ni (Ls.length : Int) := by rw [rwB_len]
      have lt : decide ((j : Int) < (Ls.length : Int)) = false := decide_eq_false (by omega)
      unfold cbY
      exact fi [.eqv 103 _ _ e103, na lt, cl e_lives15] (by kernel_rfl) (by kernel_rfl)
   unfold cbY at fin
   unfold cbX
   exact .to mo_ [.fz 10] [10, 14] [] 0 [na hlt] fin (by kernel_rfl)
theorem l_cbytes (hl : ∀ x ∈ l, W.Is64 x) (ha : W.Is64 at_2) (hy : W.Is64 by_) : Pure PP 3 [zl l, ni at_2, ni by_, .sl (byL raw)] (bo true) := by
 have hS := someL_len l
 have hG := goodL_len l
 have hT2 : ∀ c ∈ someL l ++ goodL l, ∃ q, Gq c q := fun c hc => (all_gq hc).imp fun q h => h.1
 have hTl : (someL l ++ goodL l).length ≤ 20 := by rw [List.length_append]; omega
 have hcat : (someL l).map dC ++ (goodL l).map dC = (someL l ++ goodL l).map dC := by rw [List.map_append]
 have eS : (someL l).length = (goodL l).length := by unfold someL; rw [some_len]
 have start := cb_all (by_ := by_) hTl hT2 ha raw
 have cs := e_some hl
 have cg := Pure.ro (e_good hl)
 unfold cb0 at start
 by_cases h0 : (goodL l).length = 0
 · have h1 : goodL l = [] := List.eq_nil_of_length_eq_zero h0
   have h2 : someL l = [] := List.eq_nil_of_length_eq_zero (by omega)
   rw [h1, h2] at start
   rw [h2] at cs
   rw [h1] at cg
   exact pf (by kernel_rfl) (.to mo_ [.fz 9] [1, 2, 3, 9] [] 0 [cl cs, cl cg, .ape [] rfl] start (by kernel_rfl))
 · generalize someL l = S at *
   generalize goodL l = G at *
   exact pf (by kernel_rfl) (.to mo_ [.fz 9] [1, 2, 3, 9] [] 0 [cl cs, cl cg, .aps (S.map dC) (G.map dC) ((S ++ G).map dC) 2000 35 hcat (by rw [List.length_map]; omega) (by rw [List.length_map]; omega) (dC_ok _)] start (by kernel_rfl))
end
end Go.Proofs.YtjegnmlchioofaaGreatDoor.E.Ca
