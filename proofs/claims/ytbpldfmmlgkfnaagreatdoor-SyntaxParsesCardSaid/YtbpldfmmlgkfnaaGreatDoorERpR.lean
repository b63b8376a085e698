/- The document's parser: all its commands, at any fuel. The document's parser of tokens. The document's parser of a text. Conditions: as each theorem says. -/
import Derived.Test.YtbpldfmmlgkfnaaGreatDoorERpJ
import Derived.Test.YtbpldfmmlgkfnaaGreatDoorERpK
import Derived.Test.YtbpldfmmlgkfnaaGreatDoorERpN
import Derived.Test.YtbpldfmmlgkfnaaGreatDoorERpO
import Derived.Test.YtbpldfmmlgkfnaaGreatDoorEMemZ
import Derived.Test.YtbpldfmmlgkfnaaGreatDoorEPaSpec4
import Derived.BigQuiet
import Derived.BigRegion
import Derived.Test.YtbpldfmmlgkfnaaGreatDoorELxF
namespace Go.Proofs.YtbpldfmmlgkfnaaGreatDoor
open Go.RowKit
set_option linter.unusedVariables false
theorem rflat_primary : RFlat 143:=fun E c p w h => rprimary_bad h
theorem rflat_call : RFlat 136:=rcall_bad rflat_primary
theorem rflat_unary : RFlat 130:=runary_bad rflat_call
theorem rflat_term : RFlat 127:=rterm_bad rflat_unary
theorem rflat_sum : RFlat 121:=rsum_bad rflat_term
theorem rflat_expr : RFlat 113:=rexpr_bad rflat_sum
theorem rflat_block : RFlat 70:=rblock_bad
set_option maxRecDepth 100000 in
theorem rstmt_any {f : Nat} (ihX : RCall f .expr 113) (ihB : RCall f .block 70) : RCall (f + 1) .stmt 98:=by
 intro E s w h hout
 cases b0 : seesP E.L ⟨#[118,97,114]⟩ s with
 | true => exact rstmt_var ihX rflat_expr ihB rflat_block h hout b0
 | false =>
  cases b1 : seesP E.L ⟨#[105,102]⟩ s with
  | true => exact rstmt_if ihX rflat_expr ihB rflat_block h hout b0 b1
  | false =>
   cases b2 : seesP E.L ⟨#[119,104,105,108,101]⟩ s with
   | true => exact rstmt_while ihX rflat_expr ihB rflat_block h hout b0 b1 b2
   | false =>
    cases b3 : seesP E.L ⟨#[114,101,116,117,114,110]⟩ s with
    | true => exact rstmt_return ihX rflat_expr ihB rflat_block h hout b0 b1 b2 b3
    | false =>
     cases b4 : seesP E.L ⟨#[112,114,105,110,116]⟩ s with
     | true => exact rstmt_print ihX rflat_expr ihB rflat_block h hout b0 b1 b2 b3 b4
     | false =>
      cases b5 : seesP E.L ⟨#[102,111,114,107]⟩ s with
      | true => exact rstmt_fork ihX rflat_expr ihB rflat_block h hout b0 b1 b2 b3 b4 b5
      | false =>
       cases b6 : seesP E.L ⟨#[119,97,105,116]⟩ s with
       | true => exact rstmt_wait ihX rflat_expr ihB rflat_block h hout b0 b1 b2 b3 b4 b5 b6
       | false =>
        cases b7 : seesP E.L ⟨#[115,105,103,110,97,108]⟩ s with
        | true => exact rstmt_signal ihX rflat_expr ihB rflat_block h hout b0 b1 b2 b3 b4 b5 b6 b7
        | false =>
         cases b8 : seesP E.L ⟨#[115,119,97,112]⟩ s with
         | true => exact rstmt_swap ihX rflat_expr ihB rflat_block h hout b0 b1 b2 b3 b4 b5 b6 b7 b8
         | false =>
          cases a1 : isP E.L 1 s with
          | false => exact rstmt_do0 ihX rflat_expr ihB rflat_block h hout b0 b1 b2 b3 b4 b5 b6 b7 b8 a1
          | true =>
           by_cases hn : s.i + 1 < E.L.length
           ·cases a2 : sameT (textP E.L (stepP s)) (tx "=") with
            | true => exact rstmt_set ihX rflat_expr ihB rflat_block h hout b0 b1 b2 b3 b4 b5 b6 b7 b8 a1 a2 hn
            | false => exact rstmt_do1 ihX rflat_expr ihB rflat_block h hout b0 b1 b2 b3 b4 b5 b6 b7 b8 a1 a2 hn
           ·have a2 : sameT (textP E.L (stepP s)) (tx "=") = false:=by
             have e : textP E.L (stepP s) = ByteArray.empty:=by unfold textP;rw [List.getElem?_eq_none (by show E.L.length ≤ s.i + 1;omega)]
             rw [e];decide +kernel
            exact rstmt_do2 ihX rflat_expr ihB rflat_block h hout b0 b1 b2 b3 b4 b5 b6 b7 b8 a1 a2 hn
set_option maxRecDepth 100000 in
theorem rprimary_all {f : Nat} (ihX : RCall f .expr 113) : RCall (f + 1) .primary 143:=by
 intro E s w h hout
 cases a2 : isP E.L 2 s with
 | true => exact rprimary_num h a2
 | false =>
  cases a1 : isP E.L 1 s with
  | true => exact rprimary_name ihX rflat_expr h hout a2 a1
  | false =>
   cases b0 : seesP E.L ⟨#[110,105,108]⟩ s with
   | true => exact rprimary_nil ihX rflat_expr h hout a2 a1 b0
   | false =>
    cases b1 : seesP E.L ⟨#[115,101,108,102]⟩ s with
    | true => exact rprimary_self ihX rflat_expr h hout a2 a1 b0 b1
    | false =>
     cases b2 : seesP E.L ⟨#[103,97,116,101]⟩ s with
     | true => exact rprimary_gate ihX rflat_expr h hout a2 a1 b0 b1 b2
     | false =>
      cases b3 : seesP E.L ⟨#[110,101,119]⟩ s with
      | true => exact rprimary_new ihX rflat_expr h hout a2 a1 b0 b1 b2 b3
      | false =>
       exact rprimary_paren ihX rflat_expr h hout a2 a1 b0 b1 b2 b3
set_option maxRecDepth 100000 in
theorem runary_any {f : Nat} (ihU : RCall f .unary 130) (ihC : RCall f .call 136) : RCall (f + 1) .unary 130:=by
 intro E s w h hout
 cases h1 : seesP E.L ⟨#[45]⟩ s with
 | true => exact runary_sub ihU ihC rflat_unary h hout h1
 | false =>
  cases h2 : seesP E.L ⟨#[33]⟩ s with
  | true => exact runary_not ihU ihC rflat_unary h hout h1 h2
  | false => exact runary_call ihU ihC rflat_unary h hout h1 h2
/-- All commands at a fuel. -/
structure RAll (f : Nat) : Prop where
 expr : RCall f .expr 113
 sum : RCall f .sum 121
 term : RCall f .term 127
 unary : RCall f .unary 130
 call : RCall f .call 136
 primary : RCall f .primary 143
 block : RCall f .block 70
 stmt : RCall f .stmt 98
 meth : RCall f .meth 96
 cls : RCall f .cls 68
theorem rcall_zero (c : Cmd) (fn : FuncId) : RCall 0 c fn:=fun E s w h hout => absurd (by simp only [run]) hout
theorem rall_le : ∀ (f g : Nat),g ≤ f → RAll g
 | 0,g,h => by
  obtain rfl : g = 0:=Nat.le_zero.1 h
  exact ⟨rcall_zero _ _,rcall_zero _ _,rcall_zero _ _,rcall_zero _ _,rcall_zero _ _,rcall_zero _ _,rcall_zero _ _,rcall_zero _ _,rcall_zero _ _,rcall_zero _ _⟩
 | f + 1,g,h => by
  have ih:=rall_le f
  rcases Nat.lt_or_ge f g with hg | hg
  ·obtain rfl : g = f + 1:=Nat.le_antisymm h hg
   have hf:=ih f (Nat.le_refl f)
   exact ⟨fun E s w h hout => rexpr_any hf.sum rflat_sum h hout,fun E s w h hout => rsum_any (fun g hg => (ih g hg).term) rflat_term h hout,fun E s w h hout => rterm_any (fun g hg => (ih g hg).unary) rflat_unary h hout,
    runary_any hf.unary hf.call,fun E s w h hout => rcall_any hf.primary rflat_primary (fun g hg => (ih g hg).expr) rflat_expr h hout,rprimary_all hf.expr,fun E s w h hout => rblock_any (fun g hg => (ih g hg).stmt) h hout,
    rstmt_any hf.expr hf.block,fun E s w h hout => rmethod_any hf.block rflat_block h hout,fun E s w h hout => rclass_any (fun g hg => (ih g hg).meth) h hout⟩
  ·exact ih g hg
theorem rprogram_all (f : Nat) {E : Env} {s : PS} {w : World} (h : RGood w E s) (hout : progP E f s ≠ .out) : Calls Tryz.prog 35 #[.pointer (some ⟨E.Q,0,none⟩)] w (REnd E (progP E f s) w) :=
 rprogram_any (fun g hg => (rall_le f g hg).cls) (rall_le f f (Nat.le_refl f)).block rflat_block h hout
end Go.Proofs.YtbpldfmmlgkfnaaGreatDoor

namespace Go.Proofs.YtbpldfmmlgkfnaaGreatDoor
open Go.RowKit
set_option linter.unusedVariables false

/-- What a parser of tokens tells. -/
def ParseEnd (r : Res) (w : World) (e : Ending) (w' : World) : Prop:=Below w.heap.size w w' ∧
 ((∃ n s x,r = .ok n s ∧ e = .returned (.tuple #[nvA x,.agg #[.int .i64 0,.int .i64 0]]) ∧ IsN w' (fun b => w.heap.size ≤ b) x n) ∨
   (∃ (c : Int) (p : Nat),r = .no c p ∧ c ≠ 0 ∧ e = .returned (.tuple #[nvA ⟨0,⟨#[]⟩,0,none,0,0⟩,.agg #[.int .i64 c,.int .i64 (p : Nat)]])))
def endP (E : Env) (n : Nd) (s : PS) : Res:=if s.i < E.L.length then failP E.L E.e 12 s else if 600 < s.many then .no 1 0 else .ok n s
theorem parse_prog (L : List Tok) (e f : Nat) {E : Env} (hL : E.L = L) (he : E.e = e) : parseP L e f = (progP E f ⟨0,0,0⟩).bind (endP E):=by
 subst hL he
 unfold parseP progP progK
 rw [bind_assoc,bind_assoc,tx_main]
 cases run E.L E.e f (.clsL []) ⟨0,0,0⟩ with
 | no c p => rfl
 | out => rfl
 | ok l s =>
  simp only [ok_bind]
  rw [bind_assoc,bind_assoc]
  cases wantP E.L E.e ⟨#[109,97,105,110]⟩ s with
  | no c p => rfl
  | out => rfl
  | ok n s =>
   simp only [ok_bind]
   rw [bind_assoc,bind_assoc]
   cases run E.L E.e f .block s with
   | no c p => rfl
   | out => rfl
   | ok b s =>
    simp only [ok_bind,endP]
    by_cases h : s.i < E.L.length
    ·rw [if_pos h,if_pos h];rfl
    ·rw [if_neg h,if_neg h]
     simp only [nodeP,ok_bind,tx_nil]
theorem prog_many {E : Env} {f : Nat} {n : Nd} {s : PS} (h : progP E f ⟨0,0,0⟩ = .ok n s) : s.many ≤ s.i:=by
 have hm : Mp 0 (progP E f ⟨0,0,0⟩):=by
  unfold progP progK
  refine mp_bind (lo:=0) (run_many E.L E.e f (.clsL []) ⟨0,0,0⟩) fun l s1 h1 => ?_
  refine mp_bind (lo:=pot s1 + 1) mp_want fun n s2 h2 => ?_
  refine mp_bind (lo:=pot s2) (run_many E.L E.e f .block s2) fun b s3 h3 => ?_
  refine mp_ok ?_
  rw [pot_node]
  omega
 have:=hm n s h
 unfold pot at this
 omega
/-- Two results' boxes, filled. -/
theorem two_boxes {w W W2 : World} {u0 u1 u2 u3 u4 u5 v0 v1 v2 v3 v4 v5 : Value} (hb : Below w.heap.size w W) (h1 : Blk W w.heap.size 24 #[u0,u1,u2,u3]) (h2 : Blk W (w.heap.size + 1) 27 #[u4,u5]) (hW : W2 = ((((((W.setCell ⟨w.heap.size,0,none⟩ v0).setCell ⟨w.heap.size,1,none⟩ v1).setCell ⟨w.heap.size,2,none⟩ v2).setCell ⟨w.heap.size,3,none⟩ v3).setCell ⟨w.heap.size + 1,0,none⟩ v4).setCell ⟨w.heap.size + 1,1,none⟩ v5)) :
  Below w.heap.size w W2 ∧ Blk W2 w.heap.size 24 #[v0,v1,v2,v3] ∧ Blk W2 (w.heap.size + 1) 27 #[v4,v5] ∧ (∀ b,b ≠ w.heap.size → b ≠ w.heap.size + 1 → W2.heap[b]? = W.heap[b]?) ∧ W2.heap.size = W.heap.size:=by
 have n1 : w.heap.size + 1 ≠ w.heap.size:=by omega
 subst hW
 refine ⟨?_,?_,?_,fun b hb1 hb2 => ?_,by simp [World.setCell]⟩
 ·exact (((((hb.setCell (p:=⟨w.heap.size,0,none⟩) (Nat.le_refl _) v0).setCell (p:=⟨w.heap.size,1,none⟩) (Nat.le_refl _) v1).setCell (p:=⟨w.heap.size,2,none⟩) (Nat.le_refl _) v2).setCell (p:=⟨w.heap.size,3,none⟩) (Nat.le_refl _) v3).setCell (p:=⟨w.heap.size + 1,0,none⟩) (Nat.le_succ _) v4).setCell (p:=⟨w.heap.size + 1,1,none⟩) (Nat.le_succ _) v5
 ·have a1:=h1.set_ 0 v0
  have a2:=a1.set_ 1 v1
  have a3:=a2.set_ 2 v2
  have a4:=a3.set_ 3 v3
  have a5:=a4.far (p:=⟨w.heap.size + 1,0,none⟩) (fun e => n1 e.symm) v4
  exact a5.far (p:=⟨w.heap.size + 1,1,none⟩) (fun e => n1 e.symm) v5
 ·have a1:=h2.far (p:=⟨w.heap.size,0,none⟩) n1 v0
  have a2:=a1.far (p:=⟨w.heap.size,1,none⟩) n1 v1
  have a3:=a2.far (p:=⟨w.heap.size,2,none⟩) n1 v2
  have a4:=a3.far (p:=⟨w.heap.size,3,none⟩) n1 v3
  have a5:=a4.set_ 0 v4
  exact a5.set_ 1 v5
 ·have k1 : ∀ (W : World) (o i : Nat) (v : Value),b ≠ o → (W.setCell ⟨o,i,none⟩ v).heap[b]? = W.heap[b]?:=fun W o i v h => Below.heap_setCell _ ⟨o,i,none⟩ _ _ h
  rw [k1 _ _ _ _ hb2,k1 _ _ _ _ hb2,k1 _ _ _ _ hb1,k1 _ _ _ _ hb1,k1 _ _ _ _ hb1,k1 _ _ _ _ hb1]
theorem tok_bad {w W W2 : World} {u0 u1 u2 u3 u4 u5 : Value} {r : Res} {c : Int} {p : Nat} (hb : Below w.heap.size w W) (h1 : Blk W w.heap.size 24 #[u0,u1,u2,u3]) (h2 : Blk W (w.heap.size + 1) 27 #[u4,u5]) (hr : r = .no c p) (hc : c ≠ 0)
  (hW : W2 = ((((((W.setCell ⟨w.heap.size,0,none⟩ (.int .i64 0)).setCell ⟨w.heap.size,1,none⟩ (.string ⟨#[]⟩)).setCell ⟨w.heap.size,2,none⟩ (.int .i64 0)).setCell ⟨w.heap.size,3,none⟩ (.slice none 0 0)).setCell ⟨w.heap.size + 1,0,none⟩ (.int .i64 c)).setCell ⟨w.heap.size + 1,1,none⟩ (.int .i64 (p : Nat)))) :
  Blk W2 w.heap.size 24 #[.int .i64 0,.string ⟨#[]⟩,.int .i64 0,.slice none 0 0] ∧ Blk W2 (w.heap.size + 1) 27 #[.int .i64 c,.int .i64 (p : Nat)] ∧ ParseEnd r w (.returned (.tuple #[nvA ⟨0,⟨#[]⟩,0,none,0,0⟩,.agg #[.int .i64 c,.int .i64 (p : Nat)]])) W2:=by
 obtain ⟨k1,k2,k3,-,-⟩:=two_boxes hb h1 h2 hW
 exact ⟨k2,k3,k1,.inr ⟨c,p,hr,hc,rfl⟩⟩
theorem tok_badD {w W W2 : World} {u0 u1 u2 u3 u4 u5 : Value} {r : Res} {c : Int} {p : Nat} (hb : Below w.heap.size w W) (h1 : Blk W w.heap.size 24 #[u0,u1,u2,u3]) (h2 : Blk W (w.heap.size + 1) 27 #[u4,u5]) (hr : r = .no c p) (hc : c ≠ 0)
  (hW : W2 = (((((((W.setCell ⟨w.heap.size,0,none⟩ (.int .i64 0)).setCell ⟨w.heap.size,1,none⟩ (.string ⟨#[]⟩)).setCell ⟨w.heap.size,2,none⟩ (.int .i64 0)).setCell ⟨w.heap.size,3,none⟩ (.slice none 0 0)).setCell ⟨w.heap.size + 1,0,none⟩ (.int .i64 c)).setCell ⟨w.heap.size + 1,1,none⟩ (.int .i64 (p : Nat)))).drew) :
  Blk W2 w.heap.size 24 #[.int .i64 0,.string ⟨#[]⟩,.int .i64 0,.slice none 0 0] ∧ Blk W2 (w.heap.size + 1) 27 #[.int .i64 c,.int .i64 (p : Nat)] ∧ ParseEnd r w (.returned (.tuple #[nvA ⟨0,⟨#[]⟩,0,none,0,0⟩,.agg #[.int .i64 c,.int .i64 (p : Nat)]])) W2:=by
 obtain ⟨k1,k2,k3,-,-⟩:=two_boxes hb h1 h2 rfl
 subst hW
 exact ⟨k2.drewN 1,k3.drewN 1,k1.trans (belowN _ _ 1),.inr ⟨c,p,hr,hc,rfl⟩⟩
theorem tok_good {w W W2 : World} {u0 u1 u2 u3 u4 u5 : Value} {r : Res} {n : Nd} {s : PS} {x : NV} {S : Nat → Prop} (hb : Below w.heap.size w W) (h1 : Blk W w.heap.size 24 #[u0,u1,u2,u3]) (h2 : Blk W (w.heap.size + 1) 27 #[u4,u5]) (hr : r = .ok n s) (hx : IsN W S x n) (hS : ∀ b,S b → w.heap.size + 1 < b)
  (hW : W2 = ((((((W.setCell ⟨w.heap.size,0,none⟩ (.int .i64 x.kind)).setCell ⟨w.heap.size,1,none⟩ (.string x.text)).setCell ⟨w.heap.size,2,none⟩ (.int .i64 x.num)).setCell ⟨w.heap.size,3,none⟩ (.slice x.a x.len x.cap)).setCell ⟨w.heap.size + 1,0,none⟩ (.int .i64 0)).setCell ⟨w.heap.size + 1,1,none⟩ (.int .i64 0))) :
  Blk W2 w.heap.size 24 #[.int .i64 x.kind,.string x.text,.int .i64 x.num,.slice x.a x.len x.cap] ∧ Blk W2 (w.heap.size + 1) 27 #[.int .i64 0,.int .i64 0] ∧ ParseEnd r w (.returned (.tuple #[nvA x,.agg #[.int .i64 0,.int .i64 0]])) W2:=by
 obtain ⟨k1,k2,k3,k4,k5⟩:=two_boxes hb h1 h2 hW
 exact ⟨k2,k3,k1,.inl ⟨n,s,x,hr,rfl,hx.kept (Nat.le_of_eq k5.symm) (fun b _ hb => k4 b (by have:=hS b hb;omega) (by have:=hS b hb;omega)) (fun b _ hb => by have:=hS b hb;omega)⟩⟩
set_option maxRecDepth 100000 in
set_option maxHeartbeats 3200000 in
theorem tokens_any (A : Option Addr) (c e : Nat) (L : List Tok) (w : World) (ht : Toks w A L) (hf : L.length ≤ 4000) (hc : L.length ≤ c) (hok : ∀ t ∈ L,OkT t.kind t.text) :
  Calls Tryz.prog 17 #[.slice A L.length c,.int .i64 (e : Nat)] w (ParseEnd (parseP L e (fuelP L)) w):=by
 have hw3 : ∃ w3,w3 = ((w.alloc (.cells #[.int .i64 0,.string ⟨#[]⟩,.int .i64 0,.slice none 0 0] 24)).alloc (.cells #[.int .i64 0,.int .i64 0] 27)).alloc (.cells #[.slice A L.length c,.int .i64 (e : Nat),.int .i64 0,.int .i64 0,.int .i64 0,.int .i64 0,.int .i64 0] 96):=⟨_,rfl⟩
 obtain ⟨w3,hw3⟩:=hw3
 have hb3 : Below w.heap.size w w3:=by
  rw [hw3]
  exact (((Below.refl _ _).alloc (Nat.le_refl _) _).alloc (by rw [World.size_alloc];exact Nat.le_succ _) _).alloc (by rw [World.size_alloc,World.size_alloc];omega) _
 have hn3 : Blk w3 w.heap.size 24 #[.int .i64 0,.string ⟨#[]⟩,.int .i64 0,.slice none 0 0]:=by
  rw [hw3];exact ((Blk.new w _ _).alloc _).alloc _
 have hf3 : Blk w3 (w.heap.size + 1) 27 #[.int .i64 0,.int .i64 0]:=by
  obtain ⟨o9,ho9⟩:=oZ
  have h:=(Blk.new (w.alloc o9) 27 #[.int .i64 0,.int .i64 0]).alloc (.cells #[.slice A L.length c,.int .i64 (e : Nat),.int .i64 0,.int .i64 0,.int .i64 0,.int .i64 0,.int .i64 0] 96)
  subst ho9
  rw [World.size_alloc] at h
  rw [hw3];exact h
 have hp3 : Blk w3 (w.heap.size + 1 + 1) 96 #[.slice A L.length c,.int .i64 (e : Nat),.int .i64 0,.int .i64 0,.int .i64 0,.int .i64 0,.int .i64 0]:=by
  obtain ⟨o9,ho9⟩:=oZ
  have h:=Blk.new ((w.alloc o9).alloc (.cells #[.int .i64 0,.int .i64 0] 27)) 96 #[.slice A L.length c,.int .i64 (e : Nat),.int .i64 0,.int .i64 0,.int .i64 0,.int .i64 0,.int .i64 0]
  subst ho9
  rw [World.size_alloc,World.size_alloc] at h
  rw [hw3];exact h
 have hz3 : w3.heap.size = w.heap.size + 3:=by rw [hw3,World.size_alloc,World.size_alloc,World.size_alloc]
 have hE : EnvOk w3 ⟨w.heap.size + 1 + 1,A,c,L,e⟩:=⟨ht.below hb3,fun hl a ha h => by obtain ⟨b,o,e1,hb,-⟩:=ht hl;rw [show A = _ from ha] at e1;cases e1;have h2 : b = w.heap.size + 1 + 1:=h;omega,hf,hc,hok⟩
 have h0 : wrap64 ((0 : Nat) : Int) = 0:=by simp only [wrap64];omega
 have hbk : Blk w3 (w.heap.size + 1 + 1) 96 (rCells ⟨w.heap.size + 1 + 1,A,c,L,e⟩ ((0 : Nat) : Int) 0 (wrap64 ((0 : Nat) : Int)) 0 0):=by
  rw [h0];exact hp3
 have hg : RGood w3 ⟨w.heap.size + 1 + 1,A,c,L,e⟩ ⟨0,0,0⟩:=⟨hE,Nat.zero_le _,by simp,by decide,hbk⟩
 clear h0 hbk
 have hpp:=parse_prog L e (fuelP L) (E:=⟨w.heap.size + 1 + 1,A,c,L,e⟩) rfl rfl
 have hpo:=parse_out L e
 rw [hpp] at hpo ⊢
 have hno : progP ⟨w.heap.size + 1 + 1,A,c,L,e⟩ (fuelP L) ⟨0,0,0⟩ ≠ .out:=fun h => hpo (bind_out h)
 have hmany:=fun n s h => prog_many (E:=⟨w.heap.size + 1 + 1,A,c,L,e⟩) (f:=fuelP L) (n:=n) (s:=s) h
 have hcall:=rprogram_all (fuelP L) hg hno
 clear hpp hpo
 have HC:=Lib.hid hcall
 have HNO:=Lib.hid hno
 have HM:=Lib.hid hmany
 have HEN:=Lib.hid hE
 clear hcall hno hmany hg hE
 generalize hrr : progP ⟨w.heap.size + 1 + 1,A,c,L,e⟩ (fuelP L) ⟨0,0,0⟩ = rr at *
 clear hrr
 have HB:=Lib.hid hb3;have HN:=Lib.hid hn3;have HF:=Lib.hid hf3;have HZ:=Lib.hid hz3
 have HW3:=Lib.hid hw3
 clear hb3 hn3 hf3 hp3 hz3 hw3 ht hc hok
 go_enter Tryz.func17,Tryz.ntmps17
 go_wp2_with fail
 rw [← HW3.out]
 refine HC.out.mono ?_
 rintro e9 w4 hq
 have NN : Hid (¬ w.heap.size = w.heap.size + 1 + 1):=by show ¬ _;omega
 have NF : Hid (¬ w.heap.size + 1 = w.heap.size + 1 + 1):=by show ¬ _;omega
 rcases hq.two HNO.out with ⟨n,s,x,hr9,rfl,ht9,hs9,hx9⟩ | ⟨c9,p9,x,hr9,rfl,ht9,hs9⟩
 ·clear hq
  obtain ⟨o9,ho9⟩:=oN x
  have HN4:=Lib.hid ((ht9.blk HN.out NN.out).alloc o9)
  have HF4:=Lib.hid ((ht9.blk HF.out NF.out).alloc o9)
  have HT4:=Lib.hid (ht9.alloc o9)
  have HB4:=Lib.hid (Blk.new w4 24 #[.int .i64 x.kind,.string x.text,.int .i64 x.num,.slice x.a x.len x.cap])
  have HS4:=Lib.hid (hs9.below ((Below.refl w4.heap.size w4).alloc (Nat.le_refl _) o9))
  have HX4:=Lib.hid (hx9.alloc o9)
  subst ho9
  have hsz:=ht9.size
  have hz3:=HZ.out
  have HBL : Hid (Below w.heap.size w (w4.alloc (.cells #[.int .i64 x.kind,.string x.text,.int .i64 x.num,.slice x.a x.len x.cap] 24))):=HB.out.trans (HT4.out.below (by omega) (fun k hk e => by have h : k = w.heap.size + 1 + 1:=e;omega))
  clear ht9 hs9 hx9
  clear HN HF
  obtain ⟨u0,u1,u2,u3,g0,g1,g2,g3,gl⟩:=HN4.out.f4
  obtain ⟨q0,q1,q2,q3,ql⟩:=HF4.out.f2
  have hle : s.i ≤ L.length:=HS4.out.le
  have hmi:=HM.out n s hr9
  have hmw : wrap64 ((s.many : Nat) : Int) = (s.many : Int):=by simp only [wrap64];omega
  obtain ⟨z0,z1,z2,z3,z4,z5,z6,z7,z8,z9,z10,z11,zl⟩:=HS4.out.blk.f7
  rw [hmw] at z4
  by_cases hl : s.i < L.length
  ·have hl2 : (s.i : Int) < (L.length : Int):=by omega
   go_wp2_with fail
   go_quiet (fail)
   go_wp2_with fail
   clear z0 z1 z2 z3 z4 z5 z6 z7 z8 z9 z10 z11 zl
   clear u0 u1 u2 u3 g0 g1 g2 g3 gl q0 q1 q2 q3 ql
   refine (rfail_good 12 (by decide) (HS4.out.below (belowN _ _ _))).mono ?_
   rintro e5 w6 ⟨rfl,ht9,hs9⟩
   have HBL5 : Hid (Below w.heap.size w w6):=(HBL.out.trans (belowN _ _ _)).trans (ht9.below (by have h:=HBL.out.size;exact h) (fun k hk e => by have h : k = w.heap.size + 1 + 1:=e;omega))
   have HN5:=Lib.hid (ht9.blk (HN4.out.drewN _) NN.out)
   have HF5:=Lib.hid (ht9.blk (HF4.out.drewN _) NF.out)
   have HS5:=Lib.hid hs9
   clear ht9 hs9 HN4 HF4
   obtain ⟨u0,u1,u2,u3,g0,g1,g2,g3,gl⟩:=HN5.out.f4
   obtain ⟨q0,q1,q2,q3,ql⟩:=HF5.out.f2
   obtain ⟨i8,d8,m8,hq8⟩:=HS5.out.blk
   obtain ⟨z0,z1,z2,z3,z4,z5,z6,z7,z8,z9,z10,z11,zl⟩:=hq8.f7
   clear hq8
   go_wp2_with fail
   go_region
   clear u0 u1 u2 u3 g0 g1 g2 g3 gl q0 q1 q2 q3 ql
   clear z0 z1 z2 z3 z4 z5 z6 z7 z8 z9 z10 z11 zl
   go_wp2_with fail
   have hend : rr.bind (endP ⟨w.heap.size + 1 + 1,A,c,L,e⟩) = .no 12 (posP L e s):=(bind_ok hr9).trans (if_pos hl)
   refine open_post (fun W => Blk W w.heap.size 24 #[.int .i64 0,.string ⟨#[]⟩,.int .i64 0,.slice none 0 0] ∧ Blk W (w.heap.size + 1) 27 #[.int .i64 12,.int .i64 (posP L e s : Nat)] ∧ ParseEnd (rr.bind (endP ⟨w.heap.size + 1 + 1,A,c,L,e⟩)) w (.returned (.tuple #[nvA ⟨0,⟨#[]⟩,0,none,0,0⟩,.agg #[.int .i64 12,.int .i64 (posP L e s : Nat)]])) W) (tok_badD HBL5.out HN5.out HF5.out hend (by decide) rfl) ?_
   rintro W ⟨hb1,hb2,hE⟩
   obtain ⟨v0,v1,v2,v3,-⟩:=hb1.f4
   obtain ⟨v4,v5,-⟩:=hb2.f2
   exact bodyPost_ret (v:=.tuple #[nvA ⟨0,⟨#[]⟩,0,none,0,0⟩,.agg #[.int .i64 12,.int .i64 (posP L e s : Nat)]]) (by simp [results,Tryz.results17,go_sem,nvA,v0,v1,v2,v3,v4,v5]) rfl hE
  ·have hl2 : decide ((s.i : Int) < (L.length : Int)) = false:=by simp;omega
   by_cases h6 : 600 < s.many
   ·have h62 : (600 : Int) < (s.many : Int):=by omega
    go_wp2_with fail
    go_quiet (fail)
    go_wp2_with fail
    go_region
    clear u0 u1 u2 u3 g0 g1 g2 g3 gl q0 q1 q2 q3 ql
    clear z0 z1 z2 z3 z4 z5 z6 z7 z8 z9 z10 z11 zl
    go_wp2_with fail
    have hend : rr.bind (endP ⟨w.heap.size + 1 + 1,A,c,L,e⟩) = .no 1 0:=(bind_ok hr9).trans ((if_neg hl).trans (if_pos h6))
    have hbl5:=(((HBL.out.trans (belowN _ _ nq)).setCell (p:=⟨w.heap.size + 1 + 1,5,none⟩) (by show w.heap.size ≤ w.heap.size + 1 + 1;omega) (.int .i64 1)).setCell (p:=⟨w.heap.size + 1 + 1,6,none⟩) (by show w.heap.size ≤ w.heap.size + 1 + 1;omega) (.int .i64 0))
    have hn5:=((HN4.out.drewN nq).far (p:=⟨w.heap.size + 1 + 1,5,none⟩) NN.out (.int .i64 1)).far (p:=⟨w.heap.size + 1 + 1,6,none⟩) NN.out (.int .i64 0)
    have hf5:=((HF4.out.drewN nq).far (p:=⟨w.heap.size + 1 + 1,5,none⟩) NF.out (.int .i64 1)).far (p:=⟨w.heap.size + 1 + 1,6,none⟩) NF.out (.int .i64 0)
    refine open_post (fun W => Blk W w.heap.size 24 #[.int .i64 0,.string ⟨#[]⟩,.int .i64 0,.slice none 0 0] ∧ Blk W (w.heap.size + 1) 27 #[.int .i64 1,.int .i64 ((0 : Nat) : Int)] ∧ ParseEnd (rr.bind (endP ⟨w.heap.size + 1 + 1,A,c,L,e⟩)) w (.returned (.tuple #[nvA ⟨0,⟨#[]⟩,0,none,0,0⟩,.agg #[.int .i64 1,.int .i64 ((0 : Nat) : Int)]])) W) (tok_badD hbl5 hn5 hf5 hend (by decide) rfl) ?_
    rintro W ⟨hb1,hb2,hE⟩
    obtain ⟨v0,v1,v2,v3,-⟩:=hb1.f4
    obtain ⟨v4,v5,-⟩:=hb2.f2
    exact bodyPost_ret (v:=.tuple #[nvA ⟨0,⟨#[]⟩,0,none,0,0⟩,.agg #[.int .i64 1,.int .i64 ((0 : Nat) : Int)]]) (by simp [results,Tryz.results17,go_sem,nvA,v0,v1,v2,v3,v4,v5]) rfl hE
   ·have h62 : decide ((600 : Int) < (s.many : Int)) = false:=by simp;omega
    obtain ⟨y0,y1,y2,y3,e0,e1,e2,e3,el⟩:=HB4.out.f4
    go_wp2_with fail
    go_quiet (fail)
    go_wp2_with fail
    clear u0 u1 u2 u3 g0 g1 g2 g3 gl q0 q1 q2 q3 ql
    clear z0 z1 z2 z3 z4 z5 z6 z7 z8 z9 z10 z11 zl y0 y1 y2 y3 e0 e1 e2 e3 el
    have hend : rr.bind (endP ⟨w.heap.size + 1 + 1,A,c,L,e⟩) = .ok n s:=(bind_ok hr9).trans ((if_neg hl).trans (if_neg h6))
    refine open_post (fun W => Blk W w.heap.size 24 #[.int .i64 x.kind,.string x.text,.int .i64 x.num,.slice x.a x.len x.cap] ∧ Blk W (w.heap.size + 1) 27 #[.int .i64 0,.int .i64 0] ∧ ParseEnd (rr.bind (endP ⟨w.heap.size + 1 + 1,A,c,L,e⟩)) w (.returned (.tuple #[nvA x,.agg #[.int .i64 0,.int .i64 0]])) W) (tok_good (HBL.out.trans (belowN _ _ _)) (HN4.out.drewN _) (HF4.out.drewN _) hend (HX4.out.kept (Nat.le_refl _) (fun _ _ _ => rfl) (fun _ _ h => h)) (fun b hb => by have h : w3.heap.size ≤ b:=hb;omega) rfl) ?_
    rintro W ⟨hb1,hb2,hE⟩
    obtain ⟨v0,v1,v2,v3,-⟩:=hb1.f4
    obtain ⟨v4,v5,-⟩:=hb2.f2
    exact bodyPost_ret (v:=.tuple #[nvA x,.agg #[.int .i64 0,.int .i64 0]]) (by simp [results,Tryz.results17,go_sem,nvA,v0,v1,v2,v3,v4,v5]) rfl hE
 ·clear hq
  obtain ⟨o9,ho9⟩:=oN x
  have HN4:=Lib.hid ((ht9.blk HN.out NN.out).alloc o9)
  have HF4:=Lib.hid ((ht9.blk HF.out NF.out).alloc o9)
  have HT4:=Lib.hid (ht9.alloc o9)
  have HB4:=Lib.hid (Blk.new w4 24 #[.int .i64 x.kind,.string x.text,.int .i64 x.num,.slice x.a x.len x.cap])
  have HS4:=Lib.hid (hs9.below ((Below.refl w4.heap.size w4).alloc (Nat.le_refl _) o9))
  subst ho9
  have hsz:=ht9.size
  have hz3:=HZ.out
  have HBL : Hid (Below w.heap.size w (w4.alloc (.cells #[.int .i64 x.kind,.string x.text,.int .i64 x.num,.slice x.a x.len x.cap] 24))):=HB.out.trans (HT4.out.below (by omega) (fun k hk e => by have h : k = w.heap.size + 1 + 1:=e;omega))
  clear ht9 hs9
  clear HN HF
  obtain ⟨u0,u1,u2,u3,g0,g1,g2,g3,gl⟩:=HN4.out.f4
  obtain ⟨q0,q1,q2,q3,ql⟩:=HF4.out.f2
  obtain ⟨i8,d8,m8,hq8⟩:=HS4.out.blk
  have hc8 : (c9 == 0) = false:=by simpa using HS4.out.ne
  have hc9 : (c9 != 0) = true:=by simpa using HS4.out.ne
  obtain ⟨z0,z1,z2,z3,z4,z5,z6,z7,z8,z9,z10,z11,zl⟩:=hq8.f7
  clear hq8
  go_wp2_with fail
  go_quiet (fail)
  go_wp2_with fail
  go_region
  clear u0 u1 u2 u3 g0 g1 g2 g3 gl q0 q1 q2 q3 ql
  clear z0 z1 z2 z3 z4 z5 z6 z7 z8 z9 z10 z11 zl
  go_wp2_with fail
  refine open_post (fun W => Blk W w.heap.size 24 #[.int .i64 0,.string ⟨#[]⟩,.int .i64 0,.slice none 0 0] ∧ Blk W (w.heap.size + 1) 27 #[.int .i64 c9,.int .i64 (p9 : Nat)] ∧ ParseEnd (rr.bind (endP ⟨w.heap.size + 1 + 1,A,c,L,e⟩)) w (.returned (.tuple #[nvA ⟨0,⟨#[]⟩,0,none,0,0⟩,.agg #[.int .i64 c9,.int .i64 (p9 : Nat)]])) W) (tok_bad (HBL.out.trans (belowN _ _ _)) (HN4.out.drewN _) (HF4.out.drewN _) (bind_no hr9) HS4.out.ne rfl) ?_
  rintro W ⟨hb1,hb2,hE⟩
  obtain ⟨v0,v1,v2,v3,-⟩:=hb1.f4
  obtain ⟨v4,v5,-⟩:=hb2.f2
  exact bodyPost_ret (v:=.tuple #[nvA ⟨0,⟨#[]⟩,0,none,0,0⟩,.agg #[.int .i64 c9,.int .i64 (p9 : Nat)]]) (by simp [results,Tryz.results17,go_sem,nvA,v0,v1,v2,v3,v4,v5]) rfl hE
end Go.Proofs.YtbpldfmmlgkfnaaGreatDoor

namespace Go.Proofs.YtbpldfmmlgkfnaaGreatDoor
open Go.RowKit
set_option linter.unusedVariables false

theorem scanA_few (s : ByteArray) : ∀ (fuel i : Nat) (acc : List Tok),acc.length ≤ i → i ≤ s.size → (scanA s fuel i acc).1.length ≤ s.size
 | 0,i,acc,h,hi => by
  show acc.length ≤ _
  omega
 | fuel + 1,i,acc,h,hi => by
  unfold scanA
  split
  ·rename_i hlt
   split
   ·rename_i he
    have hl:=cut_len (x:=s.extract i s.size) (by rw [sub_size];omega) he
    rw [sub_size] at hl
    refine scanA_few s fuel _ _ ?_ (by omega)
    split
    ·omega
    ·rw [List.length_append,List.length_singleton];omega
   ·exact Nat.zero_le _
  ·show acc.length ≤ _
   omega
theorem scan_few (s : ByteArray) : (scanF s).1.length ≤ 4000:=by
 unfold scanF
 split
 ·exact Nat.zero_le _
 ·have:=scanA_few s (s.size + 1) 0 [] (Nat.le_refl _) (Nat.zero_le _)
  omega
/-- A text parsed, plainly. -/
def parseT (s : ByteArray) : Res:=if (scanF s).2.1 = 0 then parseP (scanF s).1 s.size (fuelP (scanF s).1) else .no (scanF s).2.1 (scanF s).2.2
set_option maxRecDepth 100000 in
set_option maxHeartbeats 3200000 in
theorem rparse_any (s : ByteArray) (hs : s.size ≤ 9223372036854775807) (w : World) : Calls Tryz.prog 7 #[.string s] w (ParseEnd (parseT s) w):=by
 have hw3 : ∃ w3,w3 = ((w.alloc (.cells #[.int .i64 0,.string ⟨#[]⟩,.int .i64 0,.slice none 0 0] 24)).alloc (.cells #[.int .i64 0,.int .i64 0] 27)):=⟨_,rfl⟩
 obtain ⟨w3,hw3⟩:=hw3
 have hb3 : Below w.heap.size w w3:=by
  rw [hw3]
  exact ((Below.refl _ _).alloc (Nat.le_refl _) _).alloc (by rw [World.size_alloc];exact Nat.le_succ _) _
 have hn3 : Blk w3 w.heap.size 24 #[.int .i64 0,.string ⟨#[]⟩,.int .i64 0,.slice none 0 0]:=by
  rw [hw3];exact (Blk.new w _ _).alloc _
 have hf3 : Blk w3 (w.heap.size + 1) 27 #[.int .i64 0,.int .i64 0]:=by
  obtain ⟨o9,ho9⟩:=oZ
  have h:=Blk.new (w.alloc o9) 27 #[.int .i64 0,.int .i64 0]
  subst ho9
  rw [World.size_alloc] at h
  rw [hw3];exact h
 have hz3 : w3.heap.size = w.heap.size + 2:=by rw [hw3,World.size_alloc,World.size_alloc]
 have HC:=Lib.hid (rscan_cap s hs w3)
 unfold ScanCap at HC
 have HFEW:=Lib.hid (scan_few s)
 have HOK:=Lib.hid (scan_ok s)
 have HP : Hid (parseT s = if (scanF s).2.1 = 0 then parseP (scanF s).1 s.size (fuelP (scanF s).1) else .no (scanF s).2.1 (scanF s).2.2):=rfl
 generalize parseT s = rr at *
 generalize scanF s = sc at *
 obtain ⟨L,f,k⟩:=sc
 dsimp only at HC HFEW HOK HP
 have HB:=Lib.hid hb3;have HN:=Lib.hid hn3;have HF:=Lib.hid hf3;have HZ:=Lib.hid hz3
 have HW3:=Lib.hid hw3
 clear hb3 hn3 hf3 hz3 hw3
 go_enter Tryz.func7,Tryz.ntmps7
 go_wp2_with fail
 rw [← HW3.out]
 refine HC.out.mono ?_
 rintro e9 w4 ⟨hb4,C,c,rfl,htk,hcap⟩
 have HN4:=Lib.hid ((HN.out.below hb4 HN.out.lt).alloc (.cells #[.int .i64 f,.int .i64 (k : Nat)] 27))
 have HF4:=Lib.hid ((HF.out.below hb4 HF.out.lt).alloc (.cells #[.int .i64 f,.int .i64 (k : Nat)] 27))
 have HQ4:=Lib.hid (Blk.new w4 27 #[.int .i64 f,.int .i64 (k : Nat)])
 have hsz:=hb4.size
 have hz3:=HZ.out
 have HBL : Hid (Below w.heap.size w (w4.alloc (.cells #[.int .i64 f,.int .i64 (k : Nat)] 27))):=(HB.out.trans (hb4.mono (by omega))).alloc (by omega) _
 have HTK:=Lib.hid (htk.below ((Below.refl _ _).alloc (Nat.le_refl _) (.cells #[.int .i64 f,.int .i64 (k : Nat)] 27)))
 have HCAP:=Lib.hid hcap
 clear hb4 htk hcap HN HF
 have hzz : (w4.alloc (.cells #[.int .i64 f,.int .i64 (k : Nat)] 27)).heap.size = w4.heap.size + 1:=World.size_alloc _ _
 generalize hw5 : (w4.alloc (.cells #[.int .i64 f,.int .i64 (k : Nat)] 27)) = w5 at *
 obtain ⟨u0,u1,u2,u3,g0,g1,g2,g3,gl⟩:=HN4.out.f4
 obtain ⟨q0,q1,q2,q3,ql⟩:=HF4.out.f2
 obtain ⟨y0,y1,y2,y3,yl⟩:=HQ4.out.f2
 by_cases h0 : f = 0
 ·subst h0
  have HT:=Lib.hid (tokens_any C c s.size L w5 HTK.out HFEW.out HCAP.out HOK.out)
  have hp : rr = parseP L s.size (fuelP L):=HP.out.trans (if_pos rfl)
  rw [← hp] at HT
  clear hp
  go_wp2_with (rw [hw5])
  clear u0 u1 u2 u3 g0 g1 g2 g3 gl q0 q1 q2 q3 ql y0 y1 y2 y3 yl
  refine HT.out.mono ?_
  rintro e5 w6 ⟨hb6,hq⟩
  have HBL6:=Lib.hid (HBL.out.trans (hb6.mono HBL.out.size))
  have HN6:=Lib.hid (HN4.out.below hb6 HN4.out.lt)
  have HF6:=Lib.hid (HF4.out.below hb6 HF4.out.lt)
  have hz9 : w.heap.size + 1 < w5.heap.size:=HF4.out.lt
  clear hb6 HN4 HF4
  obtain ⟨u0,u1,u2,u3,g0,g1,g2,g3,gl⟩:=HN6.out.f4
  obtain ⟨q0,q1,q2,q3,ql⟩:=HF6.out.f2
  rcases hq with ⟨n,s1,x,hr,rfl,hx⟩ | ⟨c9,p9,hr,hc,rfl⟩
  ·have HX:=Lib.hid hx
   clear hx
   go_wp2_with fail
   clear u0 u1 u2 u3 g0 g1 g2 g3 gl q0 q1 q2 q3 ql
   refine open_post (fun W => Blk W w.heap.size 24 #[.int .i64 x.kind,.string x.text,.int .i64 x.num,.slice x.a x.len x.cap] ∧ Blk W (w.heap.size + 1) 27 #[.int .i64 0,.int .i64 0] ∧ ParseEnd rr w (.returned (.tuple #[nvA x,.agg #[.int .i64 0,.int .i64 0]])) W) (tok_good HBL6.out HN6.out HF6.out hr HX.out (fun b hb => Nat.lt_of_lt_of_le hz9 hb) rfl) ?_
   rintro W ⟨hb1,hb2,hE⟩
   obtain ⟨v0,v1,v2,v3,-⟩:=hb1.f4
   obtain ⟨v4,v5,-⟩:=hb2.f2
   exact bodyPost_ret (v:=.tuple #[nvA x,.agg #[.int .i64 0,.int .i64 0]]) (by simp [results,Tryz.results7,go_sem,nvA,v0,v1,v2,v3,v4,v5]) rfl hE
  ·have HCN:=Lib.hid hc
   clear hc
   go_wp2_with fail
   clear u0 u1 u2 u3 g0 g1 g2 g3 gl q0 q1 q2 q3 ql
   refine open_post (fun W => Blk W w.heap.size 24 #[.int .i64 0,.string ⟨#[]⟩,.int .i64 0,.slice none 0 0] ∧ Blk W (w.heap.size + 1) 27 #[.int .i64 c9,.int .i64 (p9 : Nat)] ∧ ParseEnd rr w (.returned (.tuple #[nvA ⟨0,⟨#[]⟩,0,none,0,0⟩,.agg #[.int .i64 c9,.int .i64 (p9 : Nat)]])) W) (tok_bad HBL6.out HN6.out HF6.out hr HCN.out rfl) ?_
   rintro W ⟨hb1,hb2,hE⟩
   obtain ⟨v0,v1,v2,v3,-⟩:=hb1.f4
   obtain ⟨v4,v5,-⟩:=hb2.f2
   exact bodyPost_ret (v:=.tuple #[nvA ⟨0,⟨#[]⟩,0,none,0,0⟩,.agg #[.int .i64 c9,.int .i64 (p9 : Nat)]]) (by simp [results,Tryz.results7,go_sem,nvA,v0,v1,v2,v3,v4,v5]) rfl hE
 ·have hf : (f != 0) = true:=by simpa using h0
  have hp : rr = .no f k:=HP.out.trans (if_neg h0)
  go_wp2_with (rw [hw5])
  go_region
  go_wp2_with fail
  clear u0 u1 u2 u3 g0 g1 g2 g3 gl q0 q1 q2 q3 ql y0 y1 y2 y3 yl
  refine open_post (fun W => Blk W w.heap.size 24 #[.int .i64 0,.string ⟨#[]⟩,.int .i64 0,.slice none 0 0] ∧ Blk W (w.heap.size + 1) 27 #[.int .i64 f,.int .i64 (k : Nat)] ∧ ParseEnd rr w (.returned (.tuple #[nvA ⟨0,⟨#[]⟩,0,none,0,0⟩,.agg #[.int .i64 f,.int .i64 (k : Nat)]])) W) (tok_badD HBL.out HN4.out HF4.out hp h0 rfl) ?_
  rintro W ⟨hb1,hb2,hE⟩
  obtain ⟨v0,v1,v2,v3,-⟩:=hb1.f4
  obtain ⟨v4,v5,-⟩:=hb2.f2
  exact bodyPost_ret (v:=.tuple #[nvA ⟨0,⟨#[]⟩,0,none,0,0⟩,.agg #[.int .i64 f,.int .i64 (k : Nat)]]) (by simp [results,Tryz.results7,go_sem,nvA,v0,v1,v2,v3,v4,v5]) rfl hE
end Go.Proofs.YtbpldfmmlgkfnaaGreatDoor
