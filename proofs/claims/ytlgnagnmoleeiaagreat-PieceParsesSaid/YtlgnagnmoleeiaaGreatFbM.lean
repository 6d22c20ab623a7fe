/-
 APPEND whose result is only read from then on.
-/
import Derived.Test.YtlgnagnmoleeiaaGreatFbL
namespace Go.Proofs.YtlgnagnmoleeiaaGreat.E
open Go.RowKit
set_option linter.unusedVariables false
set_option linter.unusedSimpArgs false
section
variable {P : Program} {w : World}
def mkAq (T : TypeId) (xs : List Operand) : Op := .call { callee := .builtin .append, args := #[xs.getD 0 (.tmp 0), xs.getD 1 (.tmp 0)], argTypes := #[T, T] }
def apO (T : TypeId) (o : Oper) : Oper := { o with op := mkAq T [.tmp 0, .tmp 1], guard := none }
noncomputable def apS (b j : Nat) (x : HO) (l2 : List (List V)) : St := ⟨[.ow b, .sl l2], (List.replicate j HO.dead).set b x⟩
theorem x_apq {T e b j n bytes N : Nat} {l l2 l' : List (List V)} (hT : P.underlying T = some (.slice e)) (hap : apT P e = some (n, bytes)) (hbj : b < j) (happ : l ++ l2 = l') (h0 : 0 < l2.length) (hn : l'.length ≤ N) (hlim : apLim N bytes = true) (hz : ∀ cs ∈ l2, cs.length = n ∧ cs.all one = true) :
  Ext P (mkAq T) [.ow b, .sl l2] [(b, .rw e n l)] [(j, .dead), (b, .dead)] (.sl l') := by
 intro B M h m w a o xs ho K hl hr hrd hws
 obtain ⟨x, y, rfl⟩ := two2_of hl
 have hx := hr 0 x _ rfl rfl
 have hy := hr 1 y _ rfl rfl
 have hb : h b = .rw e n l := hrd (b, .rw e n l) (List.mem_singleton.2 rfl)
 obtain ⟨hj1, hj2⟩ := hws j (by simp) (by simp; omega)
 let a' : Act := { a with tmps := #[a.eval x, a.eval y] }
 have hlen : (apS b j (.rw e n l) l2).h.length = j := by simp [apS]
 have hho : (apS b j (.rw e n l) l2).ho b = .rw e n l := by simp [apS, St.ho, hbj]
 have e0 : aop P (apO T o) (apS b j (.rw e n l) l2) ([.aps l l2 l' N n happ h0 hn hz] : List (Fa P)) = some ⟨.ow j, [(j, .rw e n l'), (b, .dead)], [b], [], [([.sl l, .sl l2], [.sl l, .sl l2])]⟩ := by
  have n1 : Nat.beq T T = true := Nat.beq_refl T
  have n2 : Nat.beq n n = true := Nat.beq_refl n
  have n3 : Nat.beq e e = true := Nat.beq_refl e
  have s1 : (apS b j (.rw e n l) l2).evT P T (.tmp 0) = .ow b := rfl
  have s2 : (apS b j (.rw e n l) l2).ev (.tmp 1) = .sl l2 := rfl
  show (match P.underlying T with
       | some (.slice e) => match Nat.beq T T, apT P e with
         | true, some (n, bytes) => appV (apS b j (.rw _ _ l) l2) e n bytes ((apS b j (.rw _ _ l) l2).evT P T (.tmp 0)) ((apS b j (.rw _ _ l) l2).ev (.tmp 1)) _
         | _, _ => none
       | _ => none) = _
  rw [hT]
  simp only [n1, hap, s1, s2, appV, hho, n2, n3, hlim, hlen, Bool.and_self]
 have hop : Opd w (Av M h m) m (apO T o) a' (apS b j (.rw e n l) l2) := by
  refine ⟨fun t ht => ?_, K.gl⟩
  have : t = 0 ∨ t = 1 := by simpa [looks, apO, mkAq, Op.operands, Call.operands] using ht
  rcases this with rfl | rfl
  · exact hx
  · exact hy
 have G := append_ok (o := apO T o) (a := a') K rfl rfl e0 (fun p hp => by rw [List.mem_singleton.1 hp]) hop (fun c hc => by rw [List.mem_singleton.1 hc, hb, hho]) (fun c hc hlt => by
   rw [hlen] at hlt
   simp only [List.map_cons, List.map_nil, List.mem_cons, List.not_mem_nil, or_false] at hc
   rcases hc with rfl | rfl
   · omega
   · rw [hb, hho]) (fun c hc hle => by
   rw [hlen] at hle
   simp only [List.map_cons, List.map_nil, List.mem_cons, List.not_mem_nil, or_false] at hc
   rcases hc with rfl | rfl
   · exact ⟨hj1, hj2⟩
   · omega)
 have heq : execOp a'.eval (apO T o) = execOp a.eval o := by
  have e1 : a'.eval (.tmp 0) = a.eval x := rfl
  have e2 : a'.eval (.tmp 1) = a.eval y := rfl
  simp [execOp, apO, mkAq, ho, resolve, e1, e2, invoke, builtin]
 have G2 : Exec P o a w (Post B M h m w [(j, .rw e n l'), (b, .dead)] (.ow j)) := by
  unfold Goal_ Exec at G
  rw [heq] at G
  exact G
 refine Exec.imp G2 fun u w' => ?_
 rintro ⟨m', K', hr', hmo, hbl, hn'⟩
 have hu : upds h [(j, HO.rw e n l'), (b, .dead)] = upd (upd h b .dead) j (.rw e n l') := rfl
 have hk : upd (upd (upd h b .dead) j (.rw e n l')) j .dead = upds h [(j, .dead), (b, .dead)] := by
  funext c
  by_cases hc : c = j
  · subst hc; rw [upd_eq]; exact upd_eq.symm
  · rw [upd_ne hc, upd_ne hc]; exact (upd_ne hc).symm
 rw [hu] at K' hr' hmo
 have kk : Ok B M (upds h [(j, .dead), (b, .dead)]) m' w' := by rw [← hk]; exact K'.kill j
 have mk : Mo w' (Av M (upd (upd h b .dead) j (.rw e n l')) m') m' w' (Av M (upds h [(j, .dead), (b, .dead)]) m') m' := by rw [← hk]; exact Mo.kill
 have hy2 := exp_rep (h0 := fun _ => .rw e n l') (A' := Av M (upds h [(j, .dead), (b, .dead)]) m') K' (fun g e => (mk.av g e).elim id fun h => absurd (kk.av_lt e) (by omega)) 2 (.ow j) (.sl l') [j] rfl (fun c hc => by
   obtain rfl := List.mem_singleton.1 hc
   refine ⟨upd_eq, fun v g h1 h2 => ?_⟩
   have := kills_out (ks := [c]) K' (List.mem_singleton.2 rfl) (by rw [upd_eq]; rfl) h1 h2
   rw [show upds (upd (upd h b .dead) c (.rw e n l')) (kills [c]) = upds h [(c, .dead), (b, .dead)] from hk] at this
   exact this) _ hr'
 exact ⟨m', kk, hy2.mo Mo.up, hmo.trans mk, hbl, fun c hc => by simpa using hn' c hc⟩
end
end Go.Proofs.YtlgnagnmoleeiaaGreat.E
