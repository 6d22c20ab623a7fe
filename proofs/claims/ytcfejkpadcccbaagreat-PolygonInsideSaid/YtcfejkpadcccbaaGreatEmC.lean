/-
 THE SECOND ENGINE, 3: regions, and the run of a function's code as far as a loop or the end.
-/
import Derived.Test.YtcfejkpadcccbaaGreatEmA
namespace Go.Proofs.YtcfejkpadcccbaaGreat.E
open Go.RowKit
set_option linter.unusedVariables false
structure St where
 t : List V
 h : List HO
def St.ho (σ : St) (b : Nat) : HO := σ.h.getD b .dead
def okF (P : Program) (f : FuncId) : Prop := ∀ vs w, (callFunc f vs).run P w = .ok (.enter f vs) w
def Reps (w : World) (A : Nat → Prop) (m : Nat → Option Value) (args : Array Value) (ds : List V) : Prop := args.size = ds.length ∧ ∀ j x, ds[j]? = some x → Rep w A m (args.getD j undef) x
/-- What a function returns: what it stands for; or a new row, which is the caller's own from then on. -/
inductive RD where
 | v (d : V)
 | o (T z : Nat) (l : List (List V))
instance : Coe V RD := ⟨RD.v⟩
def RD.ok (D : RD) (B : Nat) (M : Nat → Prop) (w' : World) (v : Value) : Prop := match D with
 | .v d => Rep w' M no v d
 | .o T z l => (∀ cs ∈ l, cs.length = z) ∧ ∃ xs, w'.ownsRow B T z v l.length xs ∧ (∀ u ∈ xs, u.oneCell' = true) ∧ ∀ j x, l.flatten[j]? = some x → Rep w' (fun g => M g ∨ blk v = some g) no (xs.getD j undef) x
/-- What a function returns, which only makes memory. -/
def Pure (P : Program) (f : FuncId) (ds : List V) (D : RD) : Prop :=
 okF P f ∧ ∀ (w : World) (M : Nat → Prop) (args : Array Value), (∀ g, M g → g < w.heap.size) → Reps w M no args ds → Calls P f args w fun e w' => ∃ v, e = .returned v ∧ D.ok w.heap.size M w' v ∧ Below w.heap.size w w'
def one : V → Bool
 | .un => false
 | .tu _ => false
 | .ag _ => false
 | .k v => v.oneCell'
 | _ => true
/-- Facts that a walk uses, in their order. -/
inductive Fa (P : Program) where
 | call (f : FuncId) (ds : List V) (D : RD) (h : Pure P f ds D)
 | dec (t b : Bool) (h : t = b)
 | sel (l : List (List V)) (i : Nat) (cs : List V) (h : l[i]? = some cs)
 | eqv (t : Nat) (v v' : V) (h : v = v')
 | app (l l2 l' : List (List V)) (n : Nat) (h : l ++ l2 = l') (h0 : 0 < l2.length) (hn : l'.length ≤ n)
 | aps (l l2 l' : List (List V)) (n z : Nat) (h : l ++ l2 = l') (h0 : 0 < l2.length) (hn : l'.length ≤ n) (hz : ∀ cs ∈ l2, cs.length = z ∧ cs.all one = true)
 | apo (l l' : List (List V)) (k j n n0 : Nat) (h : l.take k ++ (l.take n).drop j = l') (hk : k ≤ l.length) (hj : j < n ∧ n ≤ l.length) (hn : l'.length ≤ n0)
 | ape (l : List (List V)) (h : l = [])
 | ro
 | apf (l l' : List (List V)) (k j : Nat) (h : l.take k = l') (hk : k ≤ l.length) (h0 : 0 < l.length)
 | slo (l : List (List V)) (i j : Nat) (h2 : i ≤ j ∧ j ≤ l.length) (h0 : 0 < l.length)
 | upd (l : List (List V)) (i : Nat) (cs : List V) (new : List V) (l' : List (List V)) (h : l[i]? = some cs) (h' : l.set i new = l')
 | slc (l : List (List V)) (i j z : Nat) (l' : List (List V)) (h : (l.take j).drop i = l') (h2 : i ≤ j ∧ j ≤ l.length) (hz : ∀ cs ∈ l, cs.length = z)
 | mk (n : Nat) (h : n ≤ 2000000000000)
 | cpy (l l2 : List (List V)) (h : l.length = l2.length) (hz : ∀ cs ∈ l2, cs.length = 1 ∧ cs.all one = true)
abbrev Ks := List (List V × List V)
structure R (P : Program) where
 v : V
 ws : List (Nat × HO)
 rd : List Nat
 sc : List (Fa P)
 ks : Ks
def pureRun {α : Type} (P : Program) : Sem α → Option α
 | .pure a => some a
 | .program k => pureRun P (k P)
 | _ => none
theorem pureRun_run {α : Type} {P : Program} : ∀ {x : Sem α} {a : α}, pureRun P x = some a → ∀ w, x.run P w = .ok a w
 | .pure b, a, h, w => by simp only [pureRun, Option.some.injEq] at h; subst h; rfl
 | .program k, a, h, w => by simp only [pureRun] at h; exact pureRun_run (x := k P) h w
def cV : Value → V
 | .agg cs => .ag (cs.toList.map .k)
 | v => .k v
def St.ev (σ : St) : Operand → V
 | .tmp t => σ.t.getD t .un
 | .const v => cV v
 | .global g => .k (.pointer (some ⟨g, 0, none⟩))
 | .func f => .cl f []
/-- A nil slice of a type. -/
def nilT (P : Program) (T : TypeId) : V := match P.underlying T with
 | some (.slice _) => .nl
 | _ => .k (.slice none 0 0)
def St.evT (P : Program) (σ : St) (T : TypeId) : Operand → V
 | .const (.slice none 0 0) => nilT P T
 | x => σ.ev x
section
variable {w w' : World} {A A' : Nat → Prop} {m m' : Nat → Option Value} {P : Program}
theorem nilT_rep {T : TypeId} : Rep w A m (.slice none 0 0) (nilT P T) := by
 unfold nilT
 split
 · exact .nl _
 · exact .k _ _
theorem cV_rep (v : Value) : Rep w A m v (cV v) := by
 unfold cV
 split
 · rename_i cs
   refine .ag _ cs _ (by simp) fun j x hx => ?_
   simp only [List.getElem?_map, Option.map_eq_some_iff] at hx
   obtain ⟨y, hy, rfl⟩ := hx
   rw [Array.getD_eq_getD_getElem?, ← Array.getElem?_toList, hy]
   exact .k _ _
 · exact .k _ _
theorem ev_rep {σ : St} {a : Act} {x : Operand} (h : ∀ t, x = .tmp t → Rep w A m (a.eval (.tmp t)) (σ.t.getD t .un)) : Rep w A m (a.eval x) (σ.ev x) := by
 cases x with
 | tmp t => exact h t rfl
 | const v => exact cV_rep v
 | global g => exact .k _ _
 | func f => exact .cl _ f #[] [] rfl (fun j x hx => by simp at hx)
theorem evT_rep {σ : St} {a : Act} {x : Operand} {T : TypeId} (h : ∀ t, x = .tmp t → Rep w A m (a.eval (.tmp t)) (σ.t.getD t .un)) : Rep w A m (a.eval x) (σ.evT P T x) := by
 unfold St.evT
 split
 · exact nilT_rep
 · exact ev_rep h
theorem Rep.k_inv {v u : Value} (h : Rep w A m v (.k u)) : v = u := by cases h; rfl
end
/-- What an operation does: a value, nothing, or a call. -/
def Exec (P : Program) (o : Oper) (a : Act) (w : World) (Q : Value → World → Prop) : Prop :=
 (∃ u w', (execOp a.eval o).run P w = .ok (.value u) w' ∧ Q u w') ∨ (∃ w', (execOp a.eval o).run P w = .ok .skip w' ∧ Q undef w') ∨
 ∃ f args, (execOp a.eval o).run P w = .ok (.enter f args) w ∧ Calls P f args w fun e w' => ∃ u, e = .returned u ∧ Q u w'
def Post (B : Nat) (M : Nat → Prop) (h : Nat → HO) (m : Nat → Option Value) (w : World) (ws : List (Nat × HO)) (v : V) (u : Value) (w' : World) : Prop :=
 ∃ m', Ok B M (upds h ws) m' w' ∧ Rep w' (Av M (upds h ws) m') m' u v ∧ Mo w (Av M h m) m w' (Av M (upds h ws) m') m' ∧ Below B w w' ∧ ∀ b, m' b ≠ none → m b ≠ none ∨ b ∈ ws.map (·.1)
def szT (P : Program) (t : TypeId) : Option Nat := (P.info? t).map (·.size)
/-- A value as its cells; what may stand in one cell. -/
def ceV : V → List V
 | .ag l => l
 | v => [v]
/-- Cells as a value of a type. -/
def pack (P : Program) (T : TypeId) (l : List V) : Option V := match szT P T with
 | some n => match Nat.beq l.length n with
   | true => match P.underlying T with
     | some (.struct _) => some (.ag l)
     | some (.array _ _) => some (.ag l)
     | some _ => match l with
       | [x] => some x
       | _ => none
     | none => none
   | false => none
 | none => none
def fOff (P : Program) (T f : Nat) : Option (Nat × TypeId) := match P.underlying T with
 | some (.struct fs) => match fs[f]? with
   | some x => match szT P x.type with
     | some (_ + 1) => some (x.offset, x.type)
     | _ => none
   | none => none
 | _ => none
def zcell : Value → V
 | .slice none 0 0 => .nl
 | v => .k v
def zeroV (P : Program) (T : TypeId) : Option (Value × List V) := match P.info? T with
 | some i => match i.zero with
   | some z => some (z, z.cells.toList.map zcell)
   | none => none
 | none => none
def splice (l : List V) (o : Nat) (x : List V) : List V := l.take o ++ x ++ l.drop (o + x.length)
/-- The parts of a struct or an array. -/
def places (P : Program) (T : TypeId) : Option (Nat → Option (Nat × Nat)) := match P.underlying T with
 | some (.struct fs) => match pureRun P (fs.mapM fun f => do pure (f.offset, ← sizeOf f.type)) with
   | some ps => some (ps[·]?)
   | none => none
 | some (.array _ e) => match szT P e with
   | some n => some fun i => some (i * n, n)
   | none => none
 | _ => none
def fillV (pl : Nat → Option (Nat × Nat)) : List V → List (Nat × V) → Option (List V)
 | z, [] => some z
 | z, (i, v) :: r => match pl i with
   | some (off, n) => match Nat.beq (ceV v).length n && Nat.ble (off + (ceV v).length) z.length && (ceV v).all one with
     | true => fillV pl (splice z off (ceV v)) r
     | false => none
   | none => none
/-- A value without memory of the call's own, and what is let go of for it. -/
def exps (g : V → Option (V × List Nat)) : List V → Option (List V × List Nat)
 | [] => some ([], [])
 | x :: r => match g x with
   | some (y, k) => match exps g r with
     | some (ys, ks) => some (y :: ys, k ++ ks)
     | none => none
   | none => none
def exp (h : Nat → HO) : Nat → V → Option (V × List Nat)
 | 0, _ => none
 | n + 1, x => match x with
   | .lp b o => match h b with
     | .bx _ l => match exps (exp h n) l with
       | some (ys, ks) => some (.ip (ys.drop o), b :: ks)
       | none => none
     | _ => none
   | .ow b => match h b with
     | .rw _ _ l => some (.sl l, [b])
     | _ => none
   | .rp _ _ _ _ => none
   | .os _ _ _ _ => none
   | .ag l => match exps (exp h n) l with
     | some (ys, ks) => some (.ag ys, ks)
     | none => none
   | .tu l => match exps (exp h n) l with
     | some (ys, ks) => some (.tu ys, ks)
     | none => none
   | .nl => some (.sl [], [])
   | .cl f l => match exps (exp h n) l with
     | some (ys, ks) => some (.cl f ys, ks)
     | none => none
   | x => some (x, [])
def isK : V → Bool
 | .k _ => true
 | _ => false
/-- A result that knows nothing of what the call was given. -/
def flat1 : V → Bool
 | .ag l => l.all isK
 | x => isK x
def flat : V → Bool
 | .tu l => l.all flat1
 | x => flat1 x
/-- What a call was given is only read from then on. -/
def self (b : Nat) : HO → V
 | .rw _ _ _ => .ow b
 | _ => .lp b 0
def frz (h : Nat → HO) (ks : List Nat) (b : Nat) : HO := match exp h 5 (self b (h b)) with
 | some (y, k2) => match k2.all fun c => ks.contains c with
   | true => .fz y
   | false => .dead
 | none => .dead
def argV (P : Program) (σ : St) : List Operand → List TypeId → List V
 | [], _ => []
 | x :: r, [] => σ.ev x :: argV P σ r []
 | x :: r, T :: l => σ.evT P T x :: argV P σ r l
/-- A pure operation by the model's own law: all operands are known. -/
def kv : V → Value
 | .k v => v
 | _ => .tuple #[]
def purely (P : Program) (o : Oper) (σ : St) (xs : List Operand) (sc : List (Fa P)) : Option (R P) :=
 match (xs.all fun x => isK (σ.ev x)) with
 | true => match pureRun P (execOp (fun x => kv (σ.ev x)) o) with
   | some (.value z) => some ⟨cV z, [], [], sc, []⟩
   | _ => none
 | false => none
def cellsAt (σ : St) (n : Nat) : V → Option (List V × List Nat)
 | .lp b o => match σ.ho b with
   | .bx _ l => some ((l.drop o).take n, [b])
   | _ => none
 | .ip l => some (l.take n, [])
 | _ => none
def chunks (n : Nat) : Nat → List V → List (List V)
 | 0, _ => []
 | k + 1, l => l.take n :: chunks n k (l.drop n)
/-- A type whose elements may be appended: their cells, their bytes. -/
def apT (P : Program) (e : TypeId) : Option (Nat × Nat) := match P.info? e with
 | some i => match i.zero with
   | some z => match Nat.beq z.cells.size i.size && Nat.blt 0 i.size with
     | true => some (i.size, i.bytes)
     | false => none
   | none => none
 | none => none
def apLim (n bytes : Nat) : Bool := Nat.ble (n * bytes) 140737488355328 && Nat.ble n maxLen
def ni_ (n : Nat) : V := .k (.int .i64 (n : Int))
def appV {P : Program} (σ : St) (e : TypeId) (n bytes : Nat) (x y : V) (sc : List (Fa P)) : Option (R P) := match y with
 | .ow c => match σ.ho c with
   | .rw U z2 l2 => match Nat.beq U e && Nat.beq z2 n, sc with
     | true, .app l0 l20 l' n0 _ _ _ :: sc => match apLim n0 bytes with
       | true => match x with
         | .ow b => match σ.ho b with
           | .rw U' z l => match Nat.beq U' e && Nat.beq z n with
             | true => some ⟨.ow σ.h.length, [(σ.h.length, .rw e n l'), (b, .dead)], [b, c], sc, [([.sl l, .sl l2], [.sl l0, .sl l20])]⟩
             | false => none
           | _ => none
         | .nl => some ⟨.ow σ.h.length, [(σ.h.length, .rw e n l')], [c], sc, [([.sl [], .sl l2], [.sl l0, .sl l20])]⟩
         | _ => none
       | false => none
     | _, _ => none
   | _ => none
 | .os c z2 j n2 => match x with
   | .os b z i k => match σ.ho b, sc with
     | .rw U' z' l, .apo l0 l' k0 j0 n1 n0 _ _ _ _ :: sc => match (Nat.beq b c && (Nat.beq i 0 && (Nat.beq U' e && (Nat.beq z' n && (Nat.beq z n && (Nat.beq z2 n && apLim n0 bytes)))))) with
       | true => some ⟨.ow σ.h.length, [(σ.h.length, .rw e n l'), (b, .dead)], [b], sc, [([.sl l, ni_ k, ni_ j, ni_ n2], [.sl l0, ni_ k0, ni_ j0, ni_ n1])]⟩
       | false => none
     | .rw U' z' l, .apf l0 l' k0 j0 _ _ _ :: sc => match Nat.beq b c && (Nat.beq i 0 && (Nat.beq U' e && (Nat.beq z' n && (Nat.beq z n && Nat.beq z2 n)))) with
       | true => some ⟨.ow σ.h.length, [(σ.h.length, .rw e n l'), (b, .dead)], [b], sc, [([.sl l, ni_ k, ni_ j, ni_ n2], [.sl l0, ni_ k0, ni_ j0, ni_ j0])]⟩
       | false => none
     | _, _ => none
   | _ => none
 | .sl l2 => match sc with
   | .ape l20 _ :: sc => match x with
     | .ow b => match σ.ho b with
       | .rw _ _ _ => some ⟨.ow b, [], [b], sc, [([.sl l2], [.sl l20])]⟩
       | _ => none
     | _ => none
   | .aps l0 l20 l' n0 z0 _ _ _ _ :: sc => match Nat.beq z0 n && apLim n0 bytes with
     | true => match x with
       | .ow b => match σ.ho b with
         | .rw U' z l => match Nat.beq U' e && Nat.beq z n with
           | true => some ⟨.ow σ.h.length, [(σ.h.length, .rw e n l'), (b, .dead)], [b], sc, [([.sl l, .sl l2], [.sl l0, .sl l20])]⟩
           | false => none
         | _ => none
       | .nl => some ⟨.ow σ.h.length, [(σ.h.length, .rw e n l')], [], sc, [([.sl [], .sl l2], [.sl l0, .sl l20])]⟩
       | _ => none
     | false => none
   | _ => none
 | _ => none
def bsV {P : Program} (σ : St) (e : TypeId) (n len : Nat) (ps : List (Nat × V)) (sc : List (Fa P)) : Option (R P) := match fillV (fun i => some (i * n, n)) (List.replicate (len * n) .un) ps with
 | some l => match exps (exp σ.ho 5) l with
   | some (ys, []) => match Nat.ble (len * n) 16777216 && Nat.ble len 16777216 && ys.all one with
     | true => some ⟨.ow σ.h.length, [(σ.h.length, .rw e n (chunks n len ys))], [], sc, []⟩
     | false => none
   | _ => none
 | none => none
/-- A new row that is only read from then on. -/
def roV {P : Program} (r : R P) : Option (R P) := match r.v, r.ws with
 | .ow j, [(i, x)] => match Nat.beq j i, exp (fun _ => x) 2 (.ow j) with
   | true, some (y, [_]) => some ⟨y, [(i, .dead)], r.rd, r.sc, r.ks⟩
   | _, _ => none
 | _, _ => none
def mkF {P : Program} (σ : St) (fn : Fn) (first : List Operand) (cs : Array Operand) (sc : List (Fa P)) : Option (R P) := match fn, first with
 | .func f, [] => some ⟨.cl f (cs.toList.map σ.ev), [], [], sc, []⟩
 | _, _ => none
/-- An element of an array. -/
def arrV {P : Program} (e : TypeId) (n : Nat) (z : Int) (v : V) (sc : List (Fa P)) : Option (R P) := match szT P e, decide (0 ≤ z) && decide (z < n) with
 | some q, true => match v with
   | .lp b o => some ⟨.lp b (o + z.toNat * q), [], [], sc, []⟩
   | .ip l => some ⟨.ip (l.drop (z.toNat * q)), [], [], sc, []⟩
   | .rp b k i o => some ⟨.rp b k i (o + z.toNat * q), [], [], sc, []⟩
   | _ => none
 | _, _ => none
/-- A bound of a part. -/
def St.bnd (σ : St) (n : Nat) : Option Operand → V
 | some x => σ.ev x
 | none => .k (.int .i64 (n : Int))
def aop (P : Program) (o : Oper) (σ : St) (sc : List (Fa P)) : Option (R P) :=
 match o.op with
 | .move x => some ⟨σ.evT P o.type x, [], [], sc, []⟩
 | .assign x => some ⟨σ.evT P o.type x, [], [], sc, []⟩
 | .pick c x y => match σ.ev c with
   | .k (.bool t) => some ⟨match t with | true => σ.evT P o.type x | false => σ.evT P o.type y, [], [], sc, []⟩
   | _ => none
 | .alloc T => match zeroV P T with
   | some (_, z) => some ⟨.lp σ.h.length 0, [(σ.h.length, .bx T z)], [], sc, []⟩
   | none => none
 | .box T x => match (ceV (σ.evT P T x)).all one with
   | true => some ⟨.lp σ.h.length 0, [(σ.h.length, .bx T (ceV (σ.evT P T x)))], [], sc, []⟩
   | false => none
 | .load T x => match szT P T with
   | some n => match σ.ev x with
     | .rp b z i o => match σ.ho b, sc with
       | .rw U z' l, .sel l0 i0 cs _ :: sc => match Nat.beq z' z, pack P T ((cs.drop o).take n) with
         | true, some v => some ⟨v, [], [b], sc, [([.sl l, .k (.int .i64 (i : Int))], [.sl l0, .k (.int .i64 (i0 : Int))])]⟩
         | _, _ => none
       | _, _ => none
     | _ => match cellsAt σ n (σ.ev x) with
       | some (l, rd) => match pack P T l with
         | some v => some ⟨v, [], rd, sc, []⟩
         | none => none
       | none => none
   | none => none
 | .store T p x => match σ.ev p with
   | .lp b o => match σ.ho b with
     | .bx U l => match (match szT P T with | some n => Nat.beq n (ceV (σ.evT P T x)).length | none => false) && Nat.ble (o + (ceV (σ.evT P T x)).length) l.length && (ceV (σ.evT P T x)).all one with
       | true => some ⟨.un, [(b, .bx U (splice l o (ceV (σ.evT P T x))))], [], sc, []⟩
       | false => none
     | _ => none
   | .rp b z i o => match σ.ho b, exps (exp σ.ho 5) (ceV (σ.evT P T x)), sc with
     | .rw U z' l, some (ys, []), .upd l0 i0 cs new l' _ _ :: sc => match (Nat.beq z' z && ((match szT P T with | some n => Nat.beq n (ceV (σ.evT P T x)).length | none => false) && (Nat.ble (o + ys.length) z && (Nat.beq cs.length z && (ceV (σ.evT P T x)).all one)))) with
       | true => some ⟨.un, [(b, .rw U z l')], [], sc, [([.sl l, .k (.int .i64 (i : Int)), .ag (splice cs o ys)], [.sl l0, .k (.int .i64 (i0 : Int)), .ag new])]⟩
       | false => none
     | _, _, _ => none
   | _ => none
 | .fieldAddr T x f => match fOff P T f with
   | some (n, _) => match σ.ev x with
     | .lp b o => some ⟨.lp b (o + n), [], [], sc, []⟩
     | .ip l => some ⟨.ip (l.drop n), [], [], sc, []⟩
     | .rp b z i o => some ⟨.rp b z i (o + n), [], [], sc, []⟩
     | _ => none
   | none => none
 | .field T x f => match fOff P T f with
   | some (n, F) => match σ.ev x, szT P F with
     | .ag l, some k => match pack P F ((l.drop n).take k) with
       | some v => some ⟨v, [], [], sc, []⟩
       | none => none
     | _, _ => none
   | none => none
 | .build T ps => match zeroV P T, places P T with
   | some (_, z), some pl => match fillV pl z (ps.toList.map fun x => (x.1, σ.ev x.2)) with
     | some l => some ⟨.ag l, [], [], sc, []⟩
     | none => none
   | _, _ => none
 | .buildSlice T len ps => match P.underlying T with
   | some (.slice e) => match szT P e, zeroV P e with
     | some n, some _ => match sc with
       | .ro :: sc => match bsV σ e n len (ps.toList.map fun x => (x.1, σ.evT P e x.2)) sc with
         | some r => roV r
         | none => none
       | sc => bsV σ e n len (ps.toList.map fun x => (x.1, σ.evT P e x.2)) sc
     | _, _ => none
   | _ => none
 | .makeFunc fn first cs => mkF σ fn first.toList cs sc
 | .makeSlice T x y => match P.underlying T, σ.ev x, σ.ev y, sc with
   | some (.slice e), .k (.int k1 a), .k (.int k2 b), .mk n _ :: sc => match apT P e, zeroV P e with
     | some (z, bytes), some (_, zl) => match exps (exp σ.ho 5) zl with
       | some (ys, []) => match Nat.ble bytes 100 && ys.all one with
         | true => some ⟨.ow σ.h.length, [(σ.h.length, .rw e z (List.replicate n ys))], [], sc, [([.k (.int k1 a), .k (.int k2 b)], [.k (.int k1 (n : Int)), .k (.int k2 (n : Int))])]⟩
         | false => none
       | _ => none
     | _, _ => none
   | _, _, _, _ => none
 | .binOp _ _ x y _ => purely P o σ [x, y] sc
 | .unOp _ _ x => purely P o σ [x] sc
 | .convert _ _ x => purely P o σ [x] sc
 | .indexAddr T x i => match P.underlying T, σ.ev x, σ.ev i, sc with
   | some (.slice e), .sl l, .k (.int k z), .sel l0 i0 cs _ :: sc => match szT P e with
     | some n => match Nat.beq cs.length n with
       | true => some ⟨.ip cs, [], [], sc, [([.sl l, .k (.int k z)], [.sl l0, .k (.int k (i0 : Int))])]⟩
       | false => none
     | none => none
   | some (.slice e), .ow b, .k (.int k z), .sel l0 i0 cs _ :: sc => match σ.ho b, szT P e with
     | .rw U z' l, some n => match Nat.beq z' n with
       | true => some ⟨.rp b n i0 0, [], [b], sc, [([.sl l, .k (.int k z)], [.sl l0, .k (.int k (i0 : Int))])]⟩
       | false => none
     | _, _ => none
   | some (.array n e), p, .k (.int k z), sc => arrV e n z p sc
   | _, _, _, _ => none
 | .slice T x lo hi none => match P.underlying T, σ.ev x, sc with
   | some (.slice e), .sl l, .slc l0 i0 j0 z l' _ _ _ :: sc => match szT P e with
     | some n => match Nat.beq z n with
       | true => some ⟨.sl l', [], [], sc, [([.sl l, σ.bnd 0 lo, σ.bnd l.length hi], [.sl l0, .k (.int .i64 (i0 : Int)), .k (.int .i64 (j0 : Int))])]⟩
       | false => none
     | none => none
   | some (.slice e), .ow b, .slo l0 i0 j0 _ _ :: sc => match σ.ho b, szT P e with
     | .rw U z' l, some n => match Nat.beq z' n with
       | true => some ⟨.os b n i0 j0, [], [b], sc, [([.sl l, σ.bnd 0 lo, σ.bnd l.length hi], [.sl l0, .k (.int .i64 (i0 : Int)), .k (.int .i64 (j0 : Int))])]⟩
       | false => none
     | _, _ => none
   | _, _, _ => none
 | .slice T x none (some y) (some y2) => match P.underlying T, σ.ev x, sc with
   | some (.slice e), .sl l, .slc l0 i0 j0 z l' _ _ _ :: sc => match szT P e with
     | some n => match Nat.beq z n with
       | true => some ⟨.sl l', [], [], sc, [([.sl l, .k (.int .i64 0), σ.ev y, σ.ev y2], [.sl l0, .k (.int .i64 (i0 : Int)), .k (.int .i64 (j0 : Int)), .k (.int .i64 (j0 : Int))])]⟩
       | false => none
     | none => none
   | _, _, _ => none
 | .extract x i => match σ.ev x with
   | .tu l => match l[i]? with
     | some v => some ⟨v, [], [], sc, []⟩
     | none => none
   | _ => none
 | .call c => match c.callee with
   | .builtin .len => match c.args.toList, c.argTypes.toList with
     | [x], T :: _ => match P.underlying T, σ.ev x with
       | some (.slice _), .sl l => some ⟨.k (.int .i64 l.length), [], [], sc, []⟩
       | some (.slice _), .nl => some ⟨.k (.int .i64 0), [], [], sc, []⟩
       | some (.slice _), .ow b => match σ.ho b with
         | .rw _ _ l => some ⟨.k (.int .i64 l.length), [], [b], sc, []⟩
         | _ => none
       | some (.string), .k (.string t) => some ⟨.k (.int .i64 t.size), [], [], sc, []⟩
       | _, _ => none
     | _, _ => none
   | .builtin .max => purely P o σ c.args.toList sc
   | .builtin .min => purely P o σ c.args.toList sc
   | .builtin .copy => match c.args.toList, c.argTypes.toList with
     | [x, y], [t, _] => match P.underlying t with
       | some (.slice e) => match szT P e, σ.ev x, σ.ev y, sc with
         | some 1, .ow b, .sl l2, .cpy l0 l20 _ _ :: sc => match σ.ho b with
           | .rw U 1 l => some ⟨.k (.int .i64 l20.length), [(b, .rw U 1 l2)], [b], sc, [([.sl l, .sl l2], [.sl l0, .sl l20])]⟩
           | _ => none
         | _, _, _, _ => none
       | _ => none
     | _, _ => none
   | .builtin .append => match c.args.toList, c.argTypes.toList with
     | [x, y], [t, t'] => match P.underlying t with
       | some (.slice e) => match Nat.beq t t', apT P e with
         | true, some (n, bytes) => appV σ e n bytes (σ.evT P t x) (σ.ev y) sc
         | _, _ => none
       | _ => none
     | _, _ => none
   | .value x => match σ.ev x with
     | .cl f caps => match exps (exp σ.ho 5) (argV P σ c.args.toList c.argTypes.toList ++ caps), sc with
       | some (ds, ks), .call f0 ds0 D _ :: sc => match D with
         | .v d => match ks with
           | [] => some ⟨d, [], [], sc, [(.cl f [] :: ds, .cl f0 [] :: ds0)]⟩
           | _ => match flat d with
             | true => some ⟨d, [], ks, sc, [(.cl f [] :: ds, .cl f0 [] :: ds0)]⟩
             | false => some ⟨d, ks.map fun b => (b, frz σ.ho ks b), ks, sc, [(.cl f [] :: ds, .cl f0 [] :: ds0)]⟩
         | .o T z l => some ⟨.ow σ.h.length, (σ.h.length, .rw T z l) :: ks.map fun b => (b, frz σ.ho ks b), ks, sc, [(.cl f [] :: ds, .cl f0 [] :: ds0)]⟩
       | _, _ => none
     | _ => none
   | _ => none
 | _ => none
end Go.Proofs.YtcfejkpadcccbaaGreat.E
namespace Go.Proofs.YtcfejkpadcccbaaGreat.E
open Go.RowKit
set_option linter.unusedVariables false
/-- The objects that an operation turns, and those that it reads. -/
structure Fp where
 ws : List Nat
 rd : List Nat
def St.put (σ : St) (d : Option Nat) (v : V) : List V := match d with
 | some d => σ.t.set d v
 | none => σ.t
def setAt (h : List HO) (b : Nat) (x : HO) : List HO := match Nat.ble h.length b with
 | true => h ++ List.replicate (b - h.length) .dead ++ [x]
 | false => h.set b x
def apps (h : List HO) : List (Nat × HO) → List HO
 | [] => h
 | (b, x) :: r => setAt (apps h r) b x
variable (P : Program)
def looks (o : Oper) : List Nat := o.op.operands.toList.filterMap fun | .tmp t => some t | _ => none
/-- What is frozen is read as what it is. -/
def ths (g : V → V × List Nat) : List V → List V × List Nat
 | [] => ([], [])
 | x :: r => match g x, ths g r with
   | (y, k), (ys, ks) => (y :: ys, k ++ ks)
def thV (h : Nat → HO) : Nat → V → V × List Nat
 | 0, x => (x, [])
 | n + 1, x => match x with
   | .ow b => match h b with
     | .fz (.sl l) => (.sl l, [b])
     | _ => (.ow b, [])
   | .lp b o => match h b with
     | .fz (.ip l) => (.ip (l.drop o), [b])
     | _ => (.lp b o, [])
   | .ag l => match ths (thV h n) l with
     | (l, k) => (.ag l, k)
   | .tu l => match ths (thV h n) l with
     | (l, k) => (.tu l, k)
   | .cl f l => match ths (thV h n) l with
     | (l, k) => (.cl f l, k)
   | x => (x, [])
def thS : List Nat → St → St × List Nat
 | [], σ => (σ, [])
 | t :: r, σ => match thV σ.ho 5 (σ.t.getD t .un) with
   | (y, k) => match thS r ⟨σ.t.set t y, σ.h⟩ with
     | (σ', ks) => (σ', k ++ ks)
def isFz : HO → Bool
 | .fz _ => true
 | _ => false
def thaw (o : Oper) (σ : St) : St × List Nat := match σ.h.any isFz with
 | true => thS (looks o) σ
 | false => (σ, [])
/-- Is the operation wanted? (What was decided stands in g, and in the slot.) -/
def wantV {P : Program} (ops : Array Oper) (o : Oper) (g : List (Nat × Bool)) (σ : St) (sc : List (Fa P)) : Option (Bool × List (Nat × Bool) × St × List (Fa P) × Ks) := match o.guard with
 | none => some (true, g, σ, sc, [])
 | some (j, want) => match (ops[j]?).bind (·.dst) with
   | some d => match σ.t.getD d .un with
     | .k (.bool t) => match g.lookup j with
       | some b0 => some (b0 == want, g, σ, sc, [([.k (.bool t)], [.k (.bool b0)])])
       | none => match sc with
         | .dec t0 b0 _ :: sc => some (b0 == want, (j, b0) :: g, ⟨σ.t.set d (.k (.bool b0)), σ.h⟩, sc, [([.k (.bool t)], [.k (.bool t0)])])
         | _ => none
     | .k (.tuple _) => some (false, g, σ, sc, [])
     | _ => none
   | none => none
def chg {P : Program} (d : Option Nat) (v : V) (sc : List (Fa P)) : V × List (Fa P) × Ks := match d, sc with
 | some d, .eqv t v0 v1 _ :: sc => match Nat.beq d t with
   | true => (v1, sc, [([v], [v0])])
   | false => (v, .eqv t v0 v1 ‹_› :: sc, [])
 | _, sc => (v, sc, [])
def stepR (ops : Array Oper) (o : Oper) (g : List (Nat × Bool)) (σ : St) (sc : List (Fa P)) : Option (List (Nat × Bool) × St × Fp × List (Fa P) × Ks) := match wantV ops o g σ sc with
 | some (true, g, σ, sc, k1) => match thaw o σ with
   | (σ2, fr) => match aop P o σ2 sc with
     | some r => match chg o.dst r.v r.sc with
       | (v, sc, k2) => some (g, ⟨σ.put o.dst v, apps σ.h r.ws⟩, ⟨r.ws.map (·.1), fr ++ r.rd⟩, sc, k1 ++ (r.ks ++ k2))
     | none => none
 | some (false, g, σ, sc, k1) => some (g, ⟨σ.put o.dst (.k undef), σ.h⟩, ⟨[], []⟩, sc, k1)
 | none => none
def regR (ops : Array Oper) : List Oper → List (Nat × Bool) → St → List (Fa P) → Option (St × List Fp × List (Fa P) × Ks)
 | [], _, σ, sc => some (σ, [], sc, [])
 | o :: r, g, σ, sc => match stepR P ops o g σ sc with
   | some (g, σ, fp, sc, k1) => match regR ops r g σ sc with
     | some (σ, fps, sc, k2) => some (σ, fp :: fps, sc, k1 ++ k2)
     | none => none
   | none => none
/-- Is j done ahead of k? -/
def bef (ops : Array Oper) (j : Nat) : Nat → Nat → Bool
 | 0, _ => false
 | n + 1, k => (predsOf ops k).any fun p => Nat.beq p j || (Nat.ble j p && bef ops j n p)
def Fp.conf (a b : Fp) : Bool := (a.ws.any fun x => b.ws.contains x || b.rd.contains x) || a.rd.any fun x => b.ws.contains x
/-- Whoever reads a slot of the region waits for it, or is waited for. -/
def depOk (ops : Array Oper) : Bool := (List.range ops.size).all fun k => match ops[k]? with
 | none => true
 | some o => ((List.range ops.size).all fun j => match ops[j]? with
   | some p => match p.dst with
     | some d => !(looks o).contains d || ((predsOf ops k).contains j || (Nat.blt k j && bef ops k ops.size j))
     | none => true
   | none => true) && match o.guard with
   | some (g, _) => (predsOf ops k).contains g
   | none => true
def dstOk (ops : Array Oper) : Bool := decide ((ops.toList.filterMap (·.dst)).Nodup)
def confOk (ops : Array Oper) : List Fp → Nat → Bool
 | [], _ => true
 | f :: r, j => (r.zipIdx.all fun (g, i) => !f.conf g || bef ops j ops.size (j + 1 + i)) && confOk ops r (j + 1)
inductive Out (P : Program) where
 | bad
 | at_ (td : List Item) (σ : St) (sc : List (Fa P)) (ks : Ks)
def Out.add {P : Program} (k : Ks) : Out P → Out P
 | .at_ td σ sc ks => .at_ td σ sc (k ++ ks)
 | .bad => .bad
/-- The run stops at a loop, at the end, and where it knows no way. -/
def run : Nat → List Item → St → List (Fa P) → Out P
 | 0, _, _, _ => .bad
 | _ + 1, [], σ, sc => .at_ [] σ sc []
 | n + 1, .inBlock _ :: k, σ, sc => run n k σ sc
 | n + 1, .inScope _ :: k, σ, sc => run n k σ sc
 | n + 1, .code c :: k, σ, sc => match c with
   | .skip => run n k σ sc
   | .label _ => run n k σ sc
   | .scope c => run n (.code c :: .inScope c :: k) σ sc
   | .region i ops dr => match regR P ops ops.toList [] σ sc with
     | some (σ', fps, sc', k1) => match nodef ops && (!dr || (backB ops && (depOk ops && (dstOk ops && confOk ops fps 0)))) with
       | true => (run n k σ' sc').add k1
       | false => .at_ (.code (.region i ops dr) :: k) σ sc []
     | none => .at_ (.code (.region i ops dr) :: k) σ sc []
   | .seq a b => run n (.code a :: .code b :: k) σ sc
   | .cond c a b => match σ.ev c, sc with
     | .k (.bool t), .dec t0 b0 _ :: sc => (run n (.code (match b0 with | true => a | false => b) :: k) σ sc).add [([.k (.bool t)], [.k (.bool t0)])]
     | _, sc => .at_ (.code (.cond c a b) :: k) σ sc []
   | .block id c => run n (.code c :: .inBlock id :: k) σ sc
   | .exit id => match exitTo id k with
     | some k => run n k σ sc
     | none => .bad
   | .loop c => .at_ (.code c :: .inLoop c :: k) σ sc []
   | .ret => .at_ (.code .ret :: k) σ sc []
   | .rangeFunc f p x y => .at_ (.code (.rangeFunc f p x y) :: k) σ sc []
   | _ => .bad
 | _ + 1, .inLoop c :: k, σ, sc => .at_ (.code c :: .inLoop c :: k) σ sc []
 | _, _, _, _ => .bad
def resV (P : Program) (σ : St) : List ResultVar → Option (List V)
 | [] => some []
 | r :: rs => match (match r with
   | .tmp t => some (σ.t.getD t .un)
   | .cell a T => match szT P T with
     | some n => match cellsAt σ n (thV σ.ho 5 (σ.t.getD a .un)).1 with
       | some (l, _) => pack P T l
       | none => none
     | none => none), resV P σ rs with
   | some v, some l => some (v :: l)
   | _, _ => none
def oneV : List V → V
 | [x] => x
 | l => .tu l
/-- The result, as the caller gets it. -/
def outV (fn : Func) (σ : St) (D : RD) : Option RD := match D, resV P σ fn.results.toList with
 | .v _, some l => match exp σ.ho 6 (thV σ.ho 6 (oneV l)).1 with
   | some (v, _) => some (.v v)
   | none => none
 | .o _ _ _, some [.ow b] => match σ.ho b with
   | .rw T z l => some (.o T z l)
   | _ => none
 | _, _ => none
def st0 (fn : Func) (ds : List V) : St := ⟨ds ++ List.replicate (fn.ntmps - ds.length) .un, []⟩
/-- Behind the last operation. -/
def isEnd : List Item → Bool
 | [] => true
 | .code .ret :: _ => true
 | _ => false
/-- A run to the end: what was met, what was told, the result. -/
def runE (fn : Func) (D : RD) (td : List Item) (σ : St) (sc : List (Fa P)) : Option (List (List V) × List (List V) × RD) := match run P 5000 td σ sc with
 | .at_ td' σ [] ks => match isEnd td' with
   | true => match outV P fn σ D with
     | some v => some (ks.map (·.1), ks.map (·.2), v)
     | none => none
   | false => none
 | _ => none
def met (r : Option (List (List V) × List (List V) × RD)) : Bool × List (List V) × RD := match r with
 | some (a, _, v) => (true, a, v)
 | none => (false, [], .v .un)
def told (r : Option (List (List V) × List (List V) × RD)) (D : RD) : Bool × List (List V) × RD := match r with
 | some (_, b, _) => (true, b, D)
 | none => (true, [], D)
def body (fn : Func) : List Item := match fn.body with
 | some c => [.code c]
 | none => []
end Go.Proofs.YtcfejkpadcccbaaGreat.E
