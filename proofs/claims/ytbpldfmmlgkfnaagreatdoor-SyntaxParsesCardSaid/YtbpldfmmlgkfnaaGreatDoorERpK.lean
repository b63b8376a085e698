/- The document's parser: calls. The document's parser: programs. Conditions: as each theorem says. -/
import Derived.Test.YtbpldfmmlgkfnaaGreatDoorEMemZ
import Derived.Test.YtbpldfmmlgkfnaaGreatDoorERpN
import Derived.Test.YtbpldfmmlgkfnaaGreatDoorERpS
namespace Go.Proofs.YtbpldfmmlgkfnaaGreatDoor
open Go.RowKit
set_option linter.unusedVariables false
def SB (w : World) (b1 : Nat) : Nat → Prop:=fun b => w.heap.size < b ∧ b ≠ b1
def SR2 (w : World) (b1 : Nat) (v : Value) : Nat → Prop:=fun b => w.heap.size < b ∧ b ≠ b1 ∧ v.ownBlock ≠ some b
theorem sb_ne {w : World} {b1 : Nat} {Q : Nat} (h : Q < w.heap.size) : ∀ b,SB w b1 b → ¬ b = Q:=fun b hb e => by have:=hb.1;omega
theorem sr2_ne {w : World} {b1 : Nat} {v : Value} {Q : Nat} (h : Q < w.heap.size) : ∀ b,SR2 w b1 v b → ¬ b = Q:=fun b hb e => by have:=hb.1;omega
theorem AllN.pushed2 {w W W' : World} {b1 : Nat} {v v' : Value} {xs : List NV} {l : List Nd} {x : NV} {n : Nd} {base : Nat} {ys : List NV} (h : AllN W (SR2 w b1 v) xs l) (hx : IsN W (SR2 w b1 v) x n) (ho : OwnN W base v ys) (hg : W.grownBy W' v.ownBlock) (hp : ∀ k,v'.ownBlock = some k → v.ownBlock = some k ∨ k = W.heap.size) : AllN W' (SR2 w b1 v') (xs ++ [x]) (l ++ [n]):=by
 have hb : ∀ b,b < W.heap.size → SR2 w b1 v b → W'.heap[b]? = W.heap[b]?:=fun b hb hs => hg.block b hb (fun e => hs.2.2 e.symm)
 have hS : ∀ b,b < W.heap.size → SR2 w b1 v b → SR2 w b1 v' b:=fun b hb hs => ⟨hs.1,hs.2.1,fun e => by
  rcases hp b e with h1 | h1
  ·exact hs.2.2 h1
  ·omega⟩
 exact (h.kept hg.size hb hS).snoc (hx.kept hg.size hb hS)
theorem ST1.push2 {w0 : World} {E : Env} {rr : Res} {w w' : World} {b1 : Nat} {K : Nd → Nd → List Nd → PS → Res} {tv uv : ByteArray} {xs : List NV} {x : NV} {v v' : Value} {lo : Nat} (h : ST1 E rr w (fun t u ls n s => K t u (ls ++ [n]) s) tv uv xs x (SR2 w0 b1 v) lo) (h0 : EnvOk w0 E) (hQ : E.Q < w0.heap.size) (ho : OwnN w (w0.heap.size + 1) v xs) (hg : w.grownBy w' v.ownBlock)
  (hp : ∀ k,v'.ownBlock = some k → v.ownBlock = some k ∨ k = w.heap.size) : ST E rr w' K tv uv (xs ++ [x]) (SR2 w0 b1 v') lo:=by
 rcases h with ⟨t,u,ls,n,s,h1,h2,h3,h4,h5,h6,hl⟩ | ⟨c,p,h1,h2⟩
 ·exact .inl ⟨t,u,_,s,h1,RAt.grown (r:=.ok nd0 s) h2 h0 hQ hg (row_ge ho),h3,h4,h5.pushed2 h6 ho hg hp,hl⟩
 ·exact .inr ⟨c,p,h1,RAt.grown (r:=.no c p) h2 h0 hQ hg (row_ge ho)⟩
def hdN : List Nd → Nd
 | [] => nd0
 | n :: _ => n
section
variable {E : Env} {rr : Res} {w w' : World} {tv uv : ByteArray} {xs : List NV} {S S' : Nat → Prop} {lo : Nat}
theorem ST1.first {K : Nd → Nd → List Nd → PS → Res} {x : NV} (h : ST1 E rr w (fun t u _ n s => K t u [n] s) tv uv [] x S lo) (hS : ∀ b,b < w.heap.size → S b → S' b) : ST E rr w K tv uv [x] S' lo:=by
 rcases h with ⟨t,u,ls,n,s,h1,h2,h3,h4,h5,h6,hl⟩ | h
 ·exact .inl ⟨t,u,[n],s,h1,h2,h3,h4,AllN.one (h6.weak hS),hl⟩
 ·exact .inr h
theorem ST.weak {K : Nd → Nd → List Nd → PS → Res} (h : ST E rr w K tv uv xs S lo) (hS : ∀ b,b < w.heap.size → S b → S' b) : ST E rr w K tv uv xs S' lo:=by
 rcases h with ⟨t,u,ls,s,h1,h2,h3,h4,h5,hl⟩ | h
 ·exact .inl ⟨t,u,ls,s,h1,h2,h3,h4,h5.kept (Nat.le_refl _) (fun _ _ _ => rfl) hS,hl⟩
 ·exact .inr h
theorem ST.congrL {K K' : Nd → Nd → List Nd → PS → Res} (h : ST E rr w K tv uv xs S lo) (hk : ∀ t u ls s,xs.length = ls.length → K t u ls s = K' t u ls s) : ST E rr w K' tv uv xs S lo:=by
 rcases h with ⟨t,u,ls,s,h1,h2,h3,h4,h5,hl⟩ | h
 ·exact .inl ⟨t,u,ls,s,h1.trans (hk t u ls s h5.1),h2,h3,h4,h5,hl⟩
 ·exact .inr h
theorem ST1.congrL {K K' : Nd → Nd → List Nd → Nd → PS → Res} {x : NV} (h : ST1 E rr w K tv uv xs x S lo) (hk : ∀ t u ls n s,xs.length = ls.length → K t u ls n s = K' t u ls n s) : ST1 E rr w K' tv uv xs x S lo:=by
 rcases h with ⟨t,u,ls,n,s,h1,h2,h3,h4,h5,h6,hl⟩ | h
 ·exact .inl ⟨t,u,ls,n,s,h1.trans (hk t u ls n s h5.1),h2,h3,h4,h5,h6,hl⟩
 ·exact .inr h
theorem ST.alloc {K : Nd → Nd → List Nd → PS → Res} (h : ST E rr w K tv uv xs S lo) (o : Obj) : ST E rr (w.alloc o) K tv uv xs S lo:=h.below ((Below.refl w.heap.size w).alloc (Nat.le_refl _) o)
theorem STO.le {K : Nd → Nd → List Nd → PS → Res} (h : STO E rr w K tv uv xs S lo) : lo ≤ E.L.length:=by
 obtain ⟨t,u,ls,s,h1,h2,h3,h4,h5,hl⟩:=h
 exact Nat.le_trans hl h2.le
variable (hS : ∀ b,S b → ¬ b = E.Q)
include hS
theorem st_begins {A B : Nd → Nd → List Nd → PS → Res} (x : ByteArray) (h : ST E rr w (fun t u ls s => if seesP E.L x s = true then A t u ls (stepP s) else B t u ls s) tv uv xs S lo) :
  Calls Tryz.prog 111 #[.pointer (some ⟨E.Q,0,none⟩),.string x] w fun e w' => ∃ b,e = .returned (.bool b) ∧ Turned w w' (fun b => b = E.Q) ∧ (b = true → STO E rr w' A tv uv xs S (lo + 1)) ∧ (b = false → ST E rr w' B tv uv xs S lo):=by
 rcases h with ⟨t,u,ls,s,h1,h2,h3,h4,h5,hl⟩ | ⟨c,p,h1,h2⟩
 ·cases hb : seesP E.L x s with
  | true =>
   dsimp only at h1
   rw [if_pos hb] at h1
   refine (rbegins_y h2 hb).mono fun e w' ⟨he,ht,hs⟩ => ⟨true,he,ht,fun _ => ⟨t,u,ls,_,h1,hs,h3,h4,h5.turned ht hS,Nat.succ_le_succ hl⟩,fun h => by cases h⟩
  | false =>
   dsimp only at h1
   rw [if_neg (by rw [hb];decide)] at h1
   refine (rbegins_n h2 hb).mono fun e w' ⟨he,ht,hs⟩ => ⟨false,he,ht,(fun h => by cases h),fun _ => .inl ⟨t,u,ls,s,h1,hs,h3,h4,h5.turned ht hS,hl⟩⟩
 ·exact (rbegins_no (r:=.no c p) (x:=x) h2 rfl).mono fun e w' ⟨he,ht,hs⟩ => ⟨false,he,ht,(fun h => by cases h),fun _ => .inr ⟨c,p,h1,hs⟩⟩
end
def callK (E : Env) (g : Nat) (t n a : Nd) (s : PS) : Res:=(wantP E.L E.e ⟨#[41]⟩ s).bind fun _ s => run E.L E.e g (.callL (.mk 25 t.text 0 (n :: a.kids))) ⟨s.i,s.dep,s.many + 1⟩
def callA (E : Env) (g : Nat) (_ u : Nd) (ls : List Nd) (s : PS) : Res:=(nameP E.L E.e s).bind fun t s => (wantP E.L E.e ⟨#[40]⟩ s).bind fun _ s => (if seesP E.L ⟨#[41]⟩ s = true then .ok (ndL []) s else run E.L E.e g (.argsL []) s).bind (callK E g t (hdN ls))
theorem call_open {E : Env} {rr : Res} {w : World} {tv uv : ByteArray} {xs : List NV} {S : Nat → Prop} {i f g : Nat} (ho : rr ≠ .out) (hg : g ≤ f) (h : ST E rr w (fun t u ls s => run E.L E.e g (.callL (hdN ls)) s) tv uv xs S i) :
  ∃ g',g' ≤ f ∧ ST E rr w (fun (_ u : Nd) ls s => if seesP E.L ⟨#[46]⟩ s = true then callA E g' nd0 u ls (stepP s) else .ok (hdN ls) s) tv uv xs S i:=by
 cases g with
 | zero => exact ⟨0,Nat.zero_le _,h.out ho (fun t u ls s => rfl)⟩
 | succ g =>
  refine ⟨g,Nat.le_of_succ_le hg,h.congr (fun t u ls s => ?_)⟩
  simp only [run,tx_dot,tx_lp,tx_rp,nodeP]
  rfl
theorem arg_open {E : Env} {rr : Res} {w : World} {tv uv : ByteArray} {xs : List NV} {S : Nat → Prop} {i f g g0 : Nat} (ho : rr ≠ .out) (hg : g ≤ f) (h : ST E rr w (fun t u ls s => (run E.L E.e g (.argsL ls.tail) s).bind (callK E g0 t (hdN ls))) tv uv xs S i) :
  ∃ g',g' ≤ f ∧ ST E rr w (fun t u ls s => (run E.L E.e g' .expr s).bind fun n s => if seesP E.L ⟨#[44]⟩ s = true then (run E.L E.e g' (.argsL (ls.tail ++ [n])) (stepP s)).bind (callK E g0 t (hdN ls)) else callK E g0 t (hdN ls) (ndL (ls.tail ++ [n])) s) tv uv xs S i:=by
 cases g with
 | zero => exact ⟨0,Nat.zero_le _,h.out ho (fun t u ls s => rfl)⟩
 | succ g =>
  refine ⟨g,Nat.le_of_succ_le hg,h.congr (fun t u ls s => ?_)⟩
  simp only [run,tx_com,bind_assoc]
  cases run E.L E.e g .expr s with
  | no c p => rfl
  | out => rfl
  | ok n s =>
   simp only [ok_bind]
   split <;> rfl
theorem hd_tail : ∀ {ls : List Nd},1 ≤ ls.length → hdN ls :: ls.tail = ls
 | [],h => absurd h (by decide)
 | _ :: _,_ => rfl
theorem tail_app {ls : List Nd} (h : 1 ≤ ls.length) (n : Nd) : (ls ++ [n]).tail = ls.tail ++ [n] ∧ hdN (ls ++ [n]) = hdN ls:=by
 cases ls with
 | nil => exact absurd h (by decide)
 | cons a l => exact ⟨rfl,rfl⟩
/-- What is called is kept in its box. -/
theorem st_box {w W W2 : World} {E : Env} {rr : Res} {K : Nd → PS → Res} {tv uv : ByteArray} {xs : List NV} {lo b1 : Nat} {A : Option Addr} {n c : Nat} {u0 u1 u2 u3 : Value} (h0 : EnvOk w E) (hQ : E.Q < w.heap.size) (ht : Turned w W (fun b => b = E.Q)) (ho : OwnN W (w.heap.size + 1) (.slice A n c) xs)
  (hb : Blk W b1 24 #[u0,u1,u2,u3]) (hb1 : w.heap.size < b1) (hnb : ∀ k,(Value.slice A n c).ownBlock = some k → k ≠ b1) (h : ST E rr W (fun t u ls s => K (.mk 25 t.text 0 ls) s) tv uv xs (SR2 w b1 (.slice A n c)) lo)
  (hW2 : W2 = ((((W.setCell ⟨b1,0,none⟩ (.int .i64 25)).setCell ⟨b1,1,none⟩ (.string tv)).setCell ⟨b1,2,none⟩ (.int .i64 0)).setCell ⟨b1,3,none⟩ (.slice A n c))) :
  Turned w W2 (fun b => b = E.Q) ∧ W2.heap.size = W.heap.size ∧ Blk W2 b1 24 #[.int .i64 25,.string tv,.int .i64 0,.slice A n c] ∧ (∀ k t cs,k ≠ b1 → Blk W k t cs → Blk W2 k t cs) ∧
   ST E rr W2 (fun _ _ ls s => K (hdN ls) s) tv uv [⟨25,tv,0,A,n,c⟩] (SB w b1) lo:=by
 obtain ⟨h1,h2,h3,h4,h5,h6,-⟩:=box_far (x:=⟨0,tv,0,none,0,0⟩) (n:=nd0) (S:=fun _ => False) h0 hQ ht hb hb1 (.int .i64 25) (.string tv) (.int .i64 0) (.slice A n c)
 subst hW2
 refine ⟨h1,h3.symm,h4,h6,?_⟩
 rcases h with ⟨t,u,ls,s,k1,k2,k3,k4,k5,hl⟩ | ⟨c1,p,k1,k2⟩
 ·obtain ⟨A9,c9,e9,-,hn9⟩:=ho.nodes (S':=SB w b1) k5 (fun b h => ⟨h.1,h.2.1⟩) (fun k hk => ⟨row_gt ho k hk,hnb k hk⟩)
  have hl5:=k5.1
  cases e9
  refine .inl ⟨t,u,[.mk 25 t.text 0 ls],s,k1,h5 (.ok nd0 s) k2,k3,k4,AllN.one ?_,hl⟩
  have hx : IsN W (SB w b1) ⟨25,tv,0,A,ls.length,c⟩ (.mk 25 t.text 0 ls):=⟨⟨rfl,k3,rfl,rfl⟩,hn9⟩
  exact (box_far h0 hQ ht hb hb1 (.int .i64 25) (.string tv) (.int .i64 0) (.slice A ls.length c)).2.2.2.2.2.2 (fun b hb => hb.2) hx
 ·exact .inr ⟨c1,p,k1,h5 (.no c1 p) k2⟩
/-- The kept node is handed back. -/
theorem st_ret {w W W2 : World} {E : Env} {rr : Res} {tv uv : ByteArray} {x : NV} {S : Nat → Prop} {lo : Nat} {u0 u1 u2 u3 : Value} (h0 : EnvOk w E) (hQ : E.Q < w.heap.size) (ht : Turned w W (fun b => b = E.Q)) (hx : Blk W w.heap.size 24 #[u0,u1,u2,u3]) (hS : ∀ b,S b → w.heap.size < b) (h : ST E rr W (fun _ _ ls s => .ok (hdN ls) s) tv uv [x] S lo)
  (hW2 : W2 = ((((W.setCell ⟨w.heap.size,0,none⟩ (.int .i64 x.kind)).setCell ⟨w.heap.size,1,none⟩ (.string x.text)).setCell ⟨w.heap.size,2,none⟩ (.int .i64 x.num)).setCell ⟨w.heap.size,3,none⟩ (.slice x.a x.len x.cap))) :
  Blk W2 w.heap.size 24 #[.int .i64 x.kind,.string x.text,.int .i64 x.num,.slice x.a x.len x.cap] ∧ REnd E rr w (.returned (nvA x)) W2:=by
 subst hW2
 rcases h with ⟨t,u,ls,s,h1,h2,h3,h4,h5,hl⟩ | ⟨c1,p,h1,h2⟩
 ·obtain ⟨n,rfl⟩ : ∃ n,ls = [n]:=by
   have:=h5.1
   match ls,this with
   | [n],_ => exact ⟨n,rfl⟩
  have hE:=end_good (x:=x) (n:=n) (S:=S) h0 hQ ht h2 hx (h5.2 0 x n rfl rfl) hS
  exact ⟨hE.blk,hE.done h1⟩
 ·have hE:=end_bad (x:=x) h0 hQ ht h2 hx
  exact ⟨hE.blk,hE.done h1⟩
/-- What the loop over calls holds. -/
def LInv2 (w : World) (E : Env) (rr : Res) (f b1 i : Nat) (wr : World) : Prop :=
 Turned w wr (fun b => b = E.Q) ∧ w.heap.size < wr.heap.size ∧ Blk wr w.heap.size 24 #[.int .i64 0,.string ⟨#[]⟩,.int .i64 0,.slice none 0 0] ∧
  ∃ (x : NV) (tv uv : ByteArray) (g : Nat),Blk wr b1 24 #[.int .i64 x.kind,.string x.text,.int .i64 x.num,.slice x.a x.len x.cap] ∧ g ≤ f ∧ ST E rr wr (fun t u ls s => run E.L E.e g (.callL (hdN ls)) s) tv uv [x] (SB w b1) i
/-- What the loop over a call's arguments holds. -/
def CInv (w : World) (E : Env) (rr : Res) (g0 b1 : Nat) (x0 : NV) (j : Nat) (q : Bool) (v : Value) (tv : ByteArray) (lo : Nat) (wr : World) : Prop :=
 Turned w wr (fun b => b = E.Q) ∧ w.heap.size < wr.heap.size ∧ Blk wr w.heap.size 24 #[.int .i64 0,.string ⟨#[]⟩,.int .i64 0,.slice none 0 0] ∧
  Blk wr b1 24 #[.int .i64 x0.kind,.string x0.text,.int .i64 x0.num,.slice x0.a x0.len x0.cap] ∧
  ∃ A n c xs uv,v = .slice A n c ∧ OwnN wr (w.heap.size + 1) (.slice A n c) xs ∧ xs.length ≤ 1 + j ∧ 1 ≤ xs.length ∧ (∀ k,(Value.slice A n c).ownBlock = some k → k ≠ b1) ∧
   (q = true → ST E rr wr (fun t u ls s => callK E g0 t (hdN ls) (ndL ls.tail) s) tv uv xs (SR2 w b1 (.slice A n c)) (lo + j)) ∧
   (q = false → ∃ g,g ≤ g0 ∧ ST E rr wr (fun t u ls s => (run E.L E.e g (.argsL ls.tail) s).bind (callK E g0 t (hdN ls))) tv uv xs (SR2 w b1 (.slice A n c)) (lo + j))

set_option maxRecDepth 100000 in
set_option maxHeartbeats 3200000 in
theorem rcall_any {f : Nat} (ihP : RCall f .primary 143) (bdP : RFlat 143) (ihX : ∀ g,g ≤ f → RCall g .expr 113) (bdX : RFlat 113) {E : Env} {s : PS} {w : World} (h : RGood w E s) (hout : run E.L E.e (f + 1) .call s ≠ .out) : Calls Tryz.prog 136 #[.pointer (some ⟨E.Q,0,none⟩)] w (REnd E (run E.L E.e (f + 1) .call s) w):=by
 have hE : RAt w E (.ok nd0 s):=h
 have HO0:=Lib.hid hout
 generalize hrr : run E.L E.e (f + 1) .call s = rr at *
 have hr : rr = (fun (t u : Nd) (_ : List Nd) s => (run E.L E.e f .primary s).bind fun n s => (fun (t u : Nd) (_ : List Nd) n s => (fun (t u : Nd) ls s => run E.L E.e f (.callL (hdN ls)) s) t u [n] s) t u [] n s) nd0 nd0 [] s:=by rw [← hrr];simp only [run];rfl
 clear hrr hout
 have HE:=Lib.hid hE.env
 have HQ:=Lib.hid hE.old
 have NE : Hid (¬ w.heap.size = E.Q):=by have:=hE.old;show ¬ _;omega
 have hfew:=h.env.few
 obtain ⟨o9,ho9⟩:=oZ
 have hb0:=bl w o9
 have HT:=Lib.hid (Turned.of_below (fun b => b = E.Q) hb0)
 have HX:=zB w
 have HZ:=zN w o9
 have HO:=Lib.hid (OwnN.nil (w.alloc o9) (w.heap.size + 1))
 subst ho9
 have HST : Hid (ST E rr (w.alloc (.cells #[.int .i64 0,.string ⟨#[]⟩,.int .i64 0,.slice none 0 0] 24)) (fun (t u : Nd) (_ : List Nd) s => (run E.L E.e f .primary s).bind fun n s => (fun (t u : Nd) (_ : List Nd) n s => (fun (t u : Nd) ls s => run E.L E.e f (.callL (hdN ls)) s) t u [n] s) t u [] n s) ByteArray.empty ByteArray.empty [] (SR w (.slice none 0 0)) 0):=ST.below (K:=(fun (t u : Nd) (_ : List Nd) s => (run E.L E.e f .primary s).bind fun n s => (fun (t u : Nd) (_ : List Nd) n s => (fun (t u : Nd) ls s => run E.L E.e f (.callL (hdN ls)) s) t u [n] s) t u [] n s)) (.inl ⟨nd0,nd0,[],s,hr,h,rfl,rfl,AllN.nil _ _,Nat.zero_le _⟩) hb0
 clear h hE hb0 hr
 go_enter Tryz.func136,Tryz.ntmps136
 go_wp2_with fail
 generalize (w.alloc (.cells #[.int .i64 0,.string ⟨#[]⟩,.int .i64 0,.slice none 0 0] 24)) = w1 at *
 replace HST : Hid (ST E rr _ (fun (t u : Nd) (ls : List Nd) s => (run E.L E.e f .primary s).bind fun n s => (fun (t u : Nd) (_ : List Nd) n s => (fun (t u : Nd) ls s => run E.L E.e f (.callL (hdN ls)) s) t u [n] s) t u ls n s) _ _ _ _ _):=HST.out
 refine (st_call (sr_ne HQ.out) ihP bdP HO0.out (fun b hb => ⟨Nat.lt_of_lt_of_le HZ.out hb,fun e => Nat.lt_irrefl _ (Nat.lt_of_lt_of_le (HO.out.lt _ e).2 hb)⟩) HST.out).mono ?_
 rintro e w2 ⟨x_n,rfl,ht9,hst9⟩
 replace HX:=bT HX ht9 NE
 replace HO:=Lib.hid (HO.out.turned ht9 (row_ne HO.out HQ.out))
 replace HZ:=zT HZ ht9
 replace HT:=tT HT ht9
 replace HST:=Lib.hid hst9
 clear ht9 hst9
 replace HST:=Lib.hid (ST1.first (K:=(fun (t u : Nd) ls s => run E.L E.e f (.callL (hdN ls)) s)) (S':=SB w w2.heap.size) HST.out (fun b hb h => ⟨h.1,Nat.ne_of_lt hb⟩))
 have HB:=Lib.hid (Blk.new w2 24 #[.int .i64 x_n.kind,.string x_n.text,.int .i64 x_n.num,.slice x_n.a x_n.len x_n.cap])
 have HZB:=HZ
 have NB : Hid (¬ w2.heap.size = E.Q):=by have h1:=HQ.out;have h2:=HZ.out;show ¬ _;omega
 clear HO
 obtain ⟨o9,ho9⟩:=oN x_n
 replace HX:=bA HX o9
 replace HST:=Lib.hid (HST.out.below (bl _ o9))
 replace HT:=tA HT o9
 replace HZ:=zA HZ o9
 subst ho9
 go_wp2_with fail
 generalize (World.alloc w2 (.cells #[.int .i64 x_n.kind,.string x_n.text,.int .i64 x_n.num,.slice x_n.a x_n.len x_n.cap] 24)) = wb at *
 generalize w2.heap.size = b1 at *
 go_loopw [4] (fun v wr => ∃ i : Nat,v = .int .i64 (i : Int) ∧ i ≤ E.L.length ∧ LInv2 w E rr f b1 i wr) (fun v _ => E.L.length + 1 - (intOf v).toNat)
 case atStart => exact ⟨0,rfl,Nat.zero_le _,HT.out,HZ.out,HX.out,_,_,_,_,HB.out,Nat.le_refl _,HST.out⟩
 case round =>
  clear HT HZ HX HB HST
  obtain ⟨i,rfl,hi,ht,hz,hx,x_m,tv0,uv0,g0,hb,hg0,hst⟩:=hrel
  obtain ⟨g,hgf,hst⟩:=call_open HO0.out hg0 hst
  have HT:=Lib.hid ht
  have HZ:=Lib.hid hz
  have HX:=Lib.hid hx
  have HB:=Lib.hid hb
  have HST:=Lib.hid hst
  clear ht hz hx hb hst hg0
  have hwi : IntKind.i64.wrap ((i : Int) + 1) = (i : Int) + 1:=IntWalk.i64_in _ (by omega)
  obtain ⟨i8,d8,m8,c8,p8,hq8⟩:=HST.out.cells
  obtain ⟨z0,z1,z2,z3,z4,z5,z6,z7,z8,z9,z10,z11,zl⟩:=hq8.f7
  go_wp2_with fail
  clear z0 z1 z2 z3 z4 z5 z6 z7 z8 z9 z10 z11 zl hq8
  refine (st_begins (sb_ne HQ.out) _ HST.out).mono ?_
  rintro e w3 ⟨b9,rfl,ht9,hy9,hn9⟩
  replace HX:=bT HX ht9 NE
  replace HB:=bT HB ht9 NB
  replace HZ:=zT HZ ht9
  replace HT:=tT HT ht9
  clear ht9 HST
  cases b9
  ·have HST:=Lib.hid (hn9 rfl)
   clear hy9 hn9
   obtain ⟨u0,u1,u2,u3,g0,g1,g2,g3,gl⟩:=HX.out.f4
   obtain ⟨y0,y1,y2,y3,e0,e1,e2,e3,el⟩:=HB.out.f4
   go_wp2_with fail
   clear u0 u1 u2 u3 g0 g1 g2 g3 gl y0 y1 y2 y3 e0 e1 e2 e3 el
   have HEND:=Lib.hid (st_ret HE.out HQ.out HT.out HX.out (fun b h => h.1) HST.out rfl)
   refine open_post (fun W => Blk W w.heap.size 24 #[.int .i64 x_m.kind,.string x_m.text,.int .i64 x_m.num,.slice x_m.a x_m.len x_m.cap] ∧ REnd E rr w (.returned (nvA x_m)) W) HEND.out ?_
   rintro W ⟨hb,hE⟩
   obtain ⟨v0,v1,v2,v3,-⟩:=hb.f4
   exact bodyPost_ret (v:=nvA x_m) (by simp [results,Tryz.results136,go_sem,v0,v1,v2,v3]) rfl hE
  ·have HST:=Lib.hid (hy9 rfl)
   clear hy9 hn9
   have hil : i + 1 ≤ E.L.length:=HST.out.le
   replace HST:=Lib.hid HST.out.st
   replace HST : Hid (ST E rr _ (fun (_ u : Nd) (ls : List Nd) s => (nameP E.L E.e s).bind fun t s => (fun (t u : Nd) (ls : List Nd) s => (wantP E.L E.e ⟨#[40]⟩ s).bind fun _ s => (if seesP E.L ⟨#[41]⟩ s = true then .ok (ndL []) s else run E.L E.e g (.argsL []) s).bind (callK E g t (hdN ls))) t u ls s) _ _ _ _ _):=HST.out
   go_wp2_with fail
   refine (st_name1 (sb_ne HQ.out) HST.out).mono ?_
   rintro e w4 ⟨t,rfl,ht9,hst9⟩
   replace HX:=bT HX ht9 NE
   replace HB:=bT HB ht9 NB
   replace HZ:=zT HZ ht9
   replace HT:=tT HT ht9
   replace HST:=Lib.hid hst9
   clear ht9 hst9
   obtain ⟨y0,y1,y2,y3,e0,e1,e2,e3,el⟩:=HB.out.f4
   have HO:=Lib.hid (OwnN.new w4 (w.heap.size + 1) [x_m] (by simp) (by simp) HZ.out #[.int .i64 x_m.kind,.string x_m.text,.int .i64 x_m.num,.slice x_m.a x_m.len x_m.cap] rfl)
   have NB1 : Hid (∀ k,(Value.slice (some ⟨(World.heap w4).size,0,none⟩) 1 1).ownBlock = some k → k ≠ b1):=fun k hk => Option.some.inj hk ▸ Nat.ne_of_gt HB.out.lt
   replace HST:=Lib.hid (HST.out.weak (S':=SR2 w b1 (.slice (some ⟨(World.heap w4).size,0,none⟩) 1 1)) (fun b hb h => ⟨h.1,h.2,fun e => Nat.lt_irrefl _ (Option.some.inj e ▸ hb)⟩))
   obtain ⟨o9,ho9⟩:=oN x_m
   replace HX:=bA HX o9
   replace HB:=bA HB o9
   replace HST:=Lib.hid (HST.out.below (bl _ o9))
   replace HT:=tA HT o9
   replace HZ:=zA HZ o9
   subst ho9
   go_wp2_with fail
   clear y0 y1 y2 y3 e0 e1 e2 e3 el
   generalize (World.alloc w4 (.cells #[.int .i64 x_m.kind,.string x_m.text,.int .i64 x_m.num,.slice x_m.a x_m.len x_m.cap] 24)) = wk at *
   generalize (World.heap w4).size = rb at *
   replace HST : Hid (ST E rr _ (fun (t u : Nd) (ls : List Nd) s => (wantP E.L E.e ⟨#[40]⟩ s).bind fun _ s => (fun (t u : Nd) (ls : List Nd) s => (if seesP E.L ⟨#[41]⟩ s = true then .ok (ndL []) s else run E.L E.e g (.argsL []) s).bind (callK E g t (hdN ls))) t u ls s) _ _ _ _ _):=HST.out
   refine (st_want (sr2_ne HQ.out) _ HST.out).mono ?_
   rintro e w5 ⟨rfl,ht9,hst9⟩
   replace HX:=bT HX ht9 NE
   replace HB:=bT HB ht9 NB
   replace HO:=Lib.hid (HO.out.turned ht9 (row_ne HO.out HQ.out))
   replace HZ:=zT HZ ht9
   replace HT:=tT HT ht9
   replace HST:=Lib.hid hst9
   clear ht9 hst9
   replace HST:=Lib.hid (ST.congrL (K':=fun (t u : Nd) (ls : List Nd) s => if seesP E.L ⟨#[41]⟩ s = true then callK E g t (hdN ls) (ndL ls.tail) s else (run E.L E.e g (.argsL ls.tail) s).bind (callK E g t (hdN ls))) HST.out (fun t u ls s hl => by
    match ls,hl with
    | [n],_ => (try dsimp only);split <;> rfl))
   go_wp2_with fail
   refine (st_sees (sr2_ne HQ.out) _ HST.out).mono ?_
   rintro e w6 ⟨b9,rfl,ht9,hy9,hn9⟩
   replace HX:=bT HX ht9 NE
   replace HB:=bT HB ht9 NB
   replace HO:=Lib.hid (HO.out.turned ht9 (row_ne HO.out HQ.out))
   replace HZ:=zT HZ ht9
   replace HT:=tT HT ht9
   clear ht9 HST
   cases b9
   ·have HST:=Lib.hid (hn9 rfl)
    clear hy9 hn9
    go_wp2_with fail
    go_loopw [5,7,8] (fun b v u wr => ∃ (j : Nat) (q : Bool),u = .int .i64 (j : Int) ∧ b = .bool q ∧ j ≤ E.L.length ∧ CInv w E rr g b1 x_m j q v t (i + 1) wr) (fun _ _ u _ => E.L.length + 1 - (intOf u).toNat)
    case atStart => exact ⟨0,false,rfl,rfl,Nat.zero_le _,HT.out,HZ.out,HX.out,HB.out,_,_,_,_,_,rfl,HO.out,by simp,by simp,NB1.out,(fun h => by cases h),(fun _ => ⟨g,Nat.le_refl _,HST.out.low (by omega)⟩)⟩
    case round =>
     clear HT HZ HX HB HO NB1 HST
     obtain ⟨j,q,rfl,rfl,hj,ht,hz,hx,hb,A_r,n_r,c_r,xs_r,uv,rfl,ho,hl,hl1,hnb,hst1,hst2⟩:=hrel
     have HT:=Lib.hid ht
     have HZ:=Lib.hid hz
     have HX:=Lib.hid hx
     have HB:=Lib.hid hb
     have HO:=Lib.hid ho
     have HL:=Lib.hid hl
     have HL1:=Lib.hid hl1
     have NB1:=Lib.hid hnb
     clear ht hz hx hb ho hl hl1 hnb
     have hwj : IntKind.i64.wrap ((j : Int) + 1) = (j : Int) + 1:=IntWalk.i64_in _ (by omega)
     cases q
     ·obtain ⟨g1,hg1,hst⟩:=hst2 rfl
      clear hst1 hst2
      rcases hst with hst0 | ⟨c1,p1,hr1,hs1⟩
      ·obtain ⟨g2,hg2,hst⟩:=arg_open HO0.out hg1 (.inl hst0)
       obtain ⟨i8,d8,m8,hq8⟩:=STO.cells hst0
       have HST:=Lib.hid hst
       clear hst hst0 hg1
       obtain ⟨z0,z1,z2,z3,z4,z5,z6,z7,z8,z9,z10,z11,zl⟩:=hq8.f7
       clear hq8
       replace HST : Hid (ST E rr _ (fun (t u : Nd) (ls : List Nd) s => (run E.L E.e g2 .expr s).bind fun n s => (fun (t u : Nd) (ls : List Nd) (n : Nd) s => if seesP E.L ⟨#[44]⟩ s = true then (run E.L E.e g2 (.argsL (ls.tail ++ [n])) (stepP s)).bind (callK E g t (hdN ls)) else callK E g t (hdN ls) (ndL (ls.tail ++ [n])) s) t u ls n s) _ _ _ _ _):=HST.out
       go_wp2_with fail
       clear z0 z1 z2 z3 z4 z5 z6 z7 z8 z9 z10 z11 zl
       refine (st_call (sr2_ne HQ.out) (ihX g2 (Nat.le_trans hg2 hgf)) bdX HO0.out (fun b hb => ⟨Nat.lt_of_lt_of_le HZ.out hb,Nat.ne_of_gt (Nat.lt_of_lt_of_le HB.out.lt hb),fun e => Nat.lt_irrefl _ (Nat.lt_of_lt_of_le (HO.out.lt _ e).2 hb)⟩) HST.out).mono ?_
       rintro e w7 ⟨x_k,rfl,ht9,hst9⟩
       replace HX:=bT HX ht9 NE
       replace HB:=bT HB ht9 NB
       replace HO:=Lib.hid (HO.out.turned ht9 (row_ne HO.out HQ.out))
       replace HZ:=zT HZ ht9
       replace HT:=tT HT ht9
       replace HST:=Lib.hid hst9
       clear ht9 hst9
       obtain ⟨o9,ho9⟩:=oN x_k
       replace HX:=bA HX o9
       replace HB:=bA HB o9
       replace HO:=oA HO o9
       replace HST:=Lib.hid (HST.out.below (bl _ o9))
       replace HT:=tA HT o9
       replace HZ:=zA HZ o9
       subst ho9
       replace HST:=Lib.hid (ST1.congrL (K':=fun t u ls n s => (fun (t u : Nd) (ls : List Nd) s => if seesP E.L ⟨#[44]⟩ s = true then (run E.L E.e g2 (.argsL ls.tail) (stepP s)).bind (callK E g t (hdN ls)) else callK E g t (hdN ls) (ndL ls.tail) s) t u (ls ++ [n]) s) HST.out (fun t u ls n s hl => by
        have h1 : 1 ≤ ls.length:=hl ▸ HL1.out
        dsimp only
        rw [(tail_app h1 n).1,(tail_app h1 n).2]))
       have HZ0:=HZ
       obtain ⟨o9,ho9⟩:=oN x_k
       replace HX:=bA HX o9
       replace HB:=bA HB o9
       replace HO:=oA HO o9
       replace HST:=Lib.hid (HST.out.below (bl _ o9))
       replace HT:=tA HT o9
       replace HZ:=zA HZ o9
       subst ho9
       have LIE:=lN2 w7 x_k
       have BD1 : Hid ((xs_r).length ≤ 1000000):=by have:=HL.out;show _ ≤ _;omega
       have BD2 : Hid ([x_k].length ≤ 1000000):=by show _ ≤ _;simp
       go_wp2_with (at_builtin;refine wpList_joinNd rfl _ _ rfl (w.heap.size + 1) _ _ rfl HO.out (some ⟨w7.heap.size + 1,0,none⟩) [x_k] 1 rfl LIE.out BD1.out BD2.out HZ.out ?_;intro A8 n9 c10 w11 hown hgr hpl;have HOWN:=Lib.hid hown;have HGR:=Lib.hid hgr;have HPL:=Lib.hid hpl;clear hown hgr hpl)
       replace HX:=Lib.hid (HX.out.grown HGR.out (row_nw HO.out))
       have HB8 : Hid (∀ k,(Value.slice A8 n9 c10).ownBlock = some k → k ≠ b1):=fun k hk => (HPL.out k hk).elim (fun e => NB1.out k e) (fun e => e ▸ Nat.ne_of_gt HB.out.lt)
       replace HB:=Lib.hid (HB.out.grown HGR.out (fun e => NB1.out _ e.symm rfl))
       replace NB1:=HB8
       clear HB8
       replace HZ:=Lib.hid (Nat.lt_of_lt_of_le HZ.out HGR.out.size)
       replace HT:=Lib.hid (HT.out.grown HGR.out (fun k e => .inr (row_ge HO.out k e)))
       replace HST:=Lib.hid (ST1.push2 (K:=(fun (t u : Nd) (ls : List Nd) s => if seesP E.L ⟨#[44]⟩ s = true then (run E.L E.e g2 (.argsL ls.tail) (stepP s)).bind (callK E g t (hdN ls)) else callK E g t (hdN ls) (ndL ls.tail) s)) HST.out HE.out HQ.out HO.out HGR.out HPL.out)
       replace HO:=HOWN
       clear LIE HGR HPL HOWN
       refine (st_sees (sr2_ne HQ.out) _ HST.out).mono ?_
       rintro e w12 ⟨b9,rfl,ht9,hy9,hn9⟩
       replace HX:=bT HX ht9 NE
       replace HB:=bT HB ht9 NB
       replace HO:=Lib.hid (HO.out.turned ht9 (row_ne HO.out HQ.out))
       replace HZ:=zT HZ ht9
       replace HT:=tT HT ht9
       clear ht9 HST
       cases b9
       ·have HST:=Lib.hid (hn9 rfl)
        clear hy9 hn9
        replace HST:=Lib.hid (ST.congrL (K':=fun (t u : Nd) (ls : List Nd) s => (wantP E.L E.e ⟨#[41]⟩ s).bind fun _ s => (fun (t u : Nd) (ls : List Nd) s => run E.L E.e g (.callL (.mk 25 t.text 0 ls)) ⟨s.i,s.dep,s.many + 1⟩) t u ls s) HST.out (fun t u ls s hl => by
         have h1 : 1 ≤ ls.length:=hl ▸ (by have:=HL1.out;simp)
         have h2:=hd_tail h1
         dsimp only [callK,ndL,Nd.kids]
         rw [h2]))
        go_wp2_with fail
        refine (st_want (sr2_ne HQ.out) _ HST.out).mono ?_
        rintro e w13 ⟨rfl,ht9,hst9⟩
        replace HX:=bT HX ht9 NE
        replace HB:=bT HB ht9 NB
        replace HO:=Lib.hid (HO.out.turned ht9 (row_ne HO.out HQ.out))
        replace HZ:=zT HZ ht9
        replace HT:=tT HT ht9
        replace HST:=Lib.hid hst9
        clear ht9 hst9
        go_wp2_with fail
        replace HST : Hid (ST E rr _ (fun (t u : Nd) (ls : List Nd) s => (fun (t u : Nd) (ls : List Nd) s => (fun n s => run E.L E.e g (.callL n) s) (.mk 25 t.text 0 ls) s) t u ls ⟨s.i,s.dep,s.many + 1⟩) _ _ _ _ _):=HST.out
        refine (st_node (sr2_ne HQ.out) 25 _ _ _ _ HST.out).mono ?_
        rintro e w14 ⟨rfl,ht9,hst9⟩
        replace HX:=bT HX ht9 NE
        replace HB:=bT HB ht9 NB
        replace HO:=Lib.hid (HO.out.turned ht9 (row_ne HO.out HQ.out))
        replace HZ:=zT HZ ht9
        replace HT:=tT HT ht9
        replace HST:=Lib.hid hst9
        clear ht9 hst9
        obtain ⟨y0,y1,y2,y3,e0,e1,e2,e3,el⟩:=HB.out.f4
        go_wp2_with fail
        clear y0 y1 y2 y3 e0 e1 e2 e3 el
        obtain ⟨f1,f2,f3,f4,f5⟩:=st_box (K:=fun n s => run E.L E.e g (.callL n) s) HE.out HQ.out HT.out HO.out HB.out HZB.out NB1.out HST.out rfl
        go_roundw
        case rel => exact ⟨i + 1,by go_num,by omega,f1,by rw [f2];exact HZ.out,f4 _ _ _ (Nat.ne_of_lt HZB.out) HX.out,⟨25,_,0,_,_,_⟩,_,_,g,f3,hgf,f5.low (by omega)⟩
        case measure => simp [intOf];omega
       ·have HST:=Lib.hid (hy9 rfl)
        clear hy9 hn9
        obtain ⟨i9,hlo9,hi9,hfw9,⟨d9,m9,hq9⟩,hst9,ht9⟩:=STG.step (K:=(fun (t u : Nd) (ls : List Nd) s => (run E.L E.e g2 (.argsL ls.tail) s).bind (callK E g t (hdN ls)))) HST.out (sr2_ne HQ.out)
        have hw9 : IntKind.i64.wrap ((i9 : Int) + 1) = (i9 : Int) + 1:=IntWalk.i64_in _ (by omega)
        obtain ⟨z0,z1,z2,z3,z4,z5,z6,z7,z8,z9,z10,z11,zl⟩:=hq9.f7
        replace HX:=bT HX ht9 NE
        replace HB:=bT HB ht9 NB
        replace HO:=Lib.hid (HO.out.turned ht9 (row_ne HO.out HQ.out))
        replace HZ:=zT HZ ht9
        replace HT:=tT HT ht9
        replace HST:=Lib.hid hst9
        clear ht9 hst9
        replace HST:=Lib.hid HST.out.st
        go_wp2_with fail
        clear z0 z1 z2 z3 z4 z5 z6 z7 z8 z9 z10 z11 zl hw9
        go_roundw
        case rel => exact ⟨j + 1,false,by go_num,rfl,by omega,HT.out,HZ.out,HX.out,HB.out,_,_,_,_,_,rfl,HO.out,by have:=HL.out;simp;omega,by simp,NB1.out,(fun h => by cases h),(fun _ => ⟨g2,hg2,HST.out.low (by omega)⟩)⟩
        case measure => simp [intOf];omega
      ·have HST : Hid (ST E rr wr (fun (t u : Nd) ls s => callK E g t (hdN ls) (ndL ls.tail) s) t uv xs_r (SR2 w b1 (.slice A_r n_r c_r)) (i + 1 + j)):=.inr ⟨c1,p1,hr1,hs1⟩
       obtain ⟨i8,d8,m8,hq8⟩:=hs1.blk
       obtain ⟨z0,z1,z2,z3,z4,z5,z6,z7,z8,z9,z10,z11,zl⟩:=hq8.f7
       have hc8:=hs1.ne
       clear hq8 hr1 hs1
       replace HST:=Lib.hid (ST.congrL (K':=fun (t u : Nd) (ls : List Nd) s => (wantP E.L E.e ⟨#[41]⟩ s).bind fun _ s => (fun (t u : Nd) (ls : List Nd) s => run E.L E.e g (.callL (.mk 25 t.text 0 ls)) ⟨s.i,s.dep,s.many + 1⟩) t u ls s) HST.out (fun t u ls s hl => by
        have h1 : 1 ≤ ls.length:=hl ▸ HL1.out
        have h2:=hd_tail h1
        dsimp only [callK,ndL,Nd.kids]
        rw [h2]))
       go_wp2_with fail
       clear z0 z1 z2 z3 z4 z5 z6 z7 z8 z9 z10 z11 zl hc8
       refine (st_want (sr2_ne HQ.out) _ HST.out).mono ?_
       rintro e w15 ⟨rfl,ht9,hst9⟩
       replace HX:=bT HX ht9 NE
       replace HB:=bT HB ht9 NB
       replace HO:=Lib.hid (HO.out.turned ht9 (row_ne HO.out HQ.out))
       replace HZ:=zT HZ ht9
       replace HT:=tT HT ht9
       replace HST:=Lib.hid hst9
       clear ht9 hst9
       go_wp2_with fail
       replace HST : Hid (ST E rr _ (fun (t u : Nd) (ls : List Nd) s => (fun (t u : Nd) (ls : List Nd) s => (fun n s => run E.L E.e g (.callL n) s) (.mk 25 t.text 0 ls) s) t u ls ⟨s.i,s.dep,s.many + 1⟩) _ _ _ _ _):=HST.out
       refine (st_node (sr2_ne HQ.out) 25 _ _ _ _ HST.out).mono ?_
       rintro e w16 ⟨rfl,ht9,hst9⟩
       replace HX:=bT HX ht9 NE
       replace HB:=bT HB ht9 NB
       replace HO:=Lib.hid (HO.out.turned ht9 (row_ne HO.out HQ.out))
       replace HZ:=zT HZ ht9
       replace HT:=tT HT ht9
       replace HST:=Lib.hid hst9
       clear ht9 hst9
       obtain ⟨y0,y1,y2,y3,e0,e1,e2,e3,el⟩:=HB.out.f4
       go_wp2_with fail
       clear y0 y1 y2 y3 e0 e1 e2 e3 el
       obtain ⟨f1,f2,f3,f4,f5⟩:=st_box (K:=fun n s => run E.L E.e g (.callL n) s) HE.out HQ.out HT.out HO.out HB.out HZB.out NB1.out HST.out rfl
       go_roundw
       case rel => exact ⟨i + 1,by go_num,by omega,f1,by rw [f2];exact HZ.out,f4 _ _ _ (Nat.ne_of_lt HZB.out) HX.out,⟨25,_,0,_,_,_⟩,_,_,g,f3,hgf,f5.low (by omega)⟩
       case measure => simp [intOf];omega
     ·have HST:=Lib.hid (hst1 rfl)
      clear hst1 hst2
      obtain ⟨i8,d8,m8,c8,p8,hq8⟩:=HST.out.cells
      obtain ⟨z0,z1,z2,z3,z4,z5,z6,z7,z8,z9,z10,z11,zl⟩:=hq8.f7
      replace HST:=Lib.hid (ST.congrL (K':=fun (t u : Nd) (ls : List Nd) s => (wantP E.L E.e ⟨#[41]⟩ s).bind fun _ s => (fun (t u : Nd) (ls : List Nd) s => run E.L E.e g (.callL (.mk 25 t.text 0 ls)) ⟨s.i,s.dep,s.many + 1⟩) t u ls s) HST.out (fun t u ls s hl => by
       have h1 : 1 ≤ ls.length:=hl ▸ HL1.out
       have h2:=hd_tail h1
       dsimp only [callK,ndL,Nd.kids]
       rw [h2]))
      go_wp2_with fail
      clear z0 z1 z2 z3 z4 z5 z6 z7 z8 z9 z10 z11 zl hq8
      refine (st_want (sr2_ne HQ.out) _ HST.out).mono ?_
      rintro e w17 ⟨rfl,ht9,hst9⟩
      replace HX:=bT HX ht9 NE
      replace HB:=bT HB ht9 NB
      replace HO:=Lib.hid (HO.out.turned ht9 (row_ne HO.out HQ.out))
      replace HZ:=zT HZ ht9
      replace HT:=tT HT ht9
      replace HST:=Lib.hid hst9
      clear ht9 hst9
      go_wp2_with fail
      replace HST : Hid (ST E rr _ (fun (t u : Nd) (ls : List Nd) s => (fun (t u : Nd) (ls : List Nd) s => (fun n s => run E.L E.e g (.callL n) s) (.mk 25 t.text 0 ls) s) t u ls ⟨s.i,s.dep,s.many + 1⟩) _ _ _ _ _):=HST.out
      refine (st_node (sr2_ne HQ.out) 25 _ _ _ _ HST.out).mono ?_
      rintro e w18 ⟨rfl,ht9,hst9⟩
      replace HX:=bT HX ht9 NE
      replace HB:=bT HB ht9 NB
      replace HO:=Lib.hid (HO.out.turned ht9 (row_ne HO.out HQ.out))
      replace HZ:=zT HZ ht9
      replace HT:=tT HT ht9
      replace HST:=Lib.hid hst9
      clear ht9 hst9
      obtain ⟨y0,y1,y2,y3,e0,e1,e2,e3,el⟩:=HB.out.f4
      go_wp2_with fail
      clear y0 y1 y2 y3 e0 e1 e2 e3 el
      obtain ⟨f1,f2,f3,f4,f5⟩:=st_box (K:=fun n s => run E.L E.e g (.callL n) s) HE.out HQ.out HT.out HO.out HB.out HZB.out NB1.out HST.out rfl
      go_roundw
      case rel => exact ⟨i + 1,by go_num,by omega,f1,by rw [f2];exact HZ.out,f4 _ _ _ (Nat.ne_of_lt HZB.out) HX.out,⟨25,_,0,_,_,_⟩,_,_,g,f3,hgf,f5.low (by omega)⟩
      case measure => simp [intOf];omega
   ·have HST:=Lib.hid (hy9 rfl)
    clear hy9 hn9
    replace HST:=Lib.hid HST.out.st
    go_wp2_with fail
    go_loopw [5,7,8] (fun b v u wr => ∃ (j : Nat) (q : Bool),u = .int .i64 (j : Int) ∧ b = .bool q ∧ j ≤ E.L.length ∧ CInv w E rr g b1 x_m j q v t (i + 1) wr) (fun _ _ u _ => E.L.length + 1 - (intOf u).toNat)
    case atStart => exact ⟨0,true,rfl,rfl,Nat.zero_le _,HT.out,HZ.out,HX.out,HB.out,_,_,_,_,_,rfl,HO.out,by simp,by simp,NB1.out,(fun _ => HST.out.low (by omega)),(fun h => by cases h)⟩
    case round =>
     clear HT HZ HX HB HO NB1 HST
     obtain ⟨j,q,rfl,rfl,hj,ht,hz,hx,hb,A_r,n_r,c_r,xs_r,uv,rfl,ho,hl,hl1,hnb,hst1,hst2⟩:=hrel
     have HT:=Lib.hid ht
     have HZ:=Lib.hid hz
     have HX:=Lib.hid hx
     have HB:=Lib.hid hb
     have HO:=Lib.hid ho
     have HL:=Lib.hid hl
     have HL1:=Lib.hid hl1
     have NB1:=Lib.hid hnb
     clear ht hz hx hb ho hl hl1 hnb
     have hwj : IntKind.i64.wrap ((j : Int) + 1) = (j : Int) + 1:=IntWalk.i64_in _ (by omega)
     cases q
     ·obtain ⟨g1,hg1,hst⟩:=hst2 rfl
      clear hst1 hst2
      rcases hst with hst0 | ⟨c1,p1,hr1,hs1⟩
      ·obtain ⟨g2,hg2,hst⟩:=arg_open HO0.out hg1 (.inl hst0)
       obtain ⟨i8,d8,m8,hq8⟩:=STO.cells hst0
       have HST:=Lib.hid hst
       clear hst hst0 hg1
       obtain ⟨z0,z1,z2,z3,z4,z5,z6,z7,z8,z9,z10,z11,zl⟩:=hq8.f7
       clear hq8
       replace HST : Hid (ST E rr _ (fun (t u : Nd) (ls : List Nd) s => (run E.L E.e g2 .expr s).bind fun n s => (fun (t u : Nd) (ls : List Nd) (n : Nd) s => if seesP E.L ⟨#[44]⟩ s = true then (run E.L E.e g2 (.argsL (ls.tail ++ [n])) (stepP s)).bind (callK E g t (hdN ls)) else callK E g t (hdN ls) (ndL (ls.tail ++ [n])) s) t u ls n s) _ _ _ _ _):=HST.out
       go_wp2_with fail
       clear z0 z1 z2 z3 z4 z5 z6 z7 z8 z9 z10 z11 zl
       refine (st_call (sr2_ne HQ.out) (ihX g2 (Nat.le_trans hg2 hgf)) bdX HO0.out (fun b hb => ⟨Nat.lt_of_lt_of_le HZ.out hb,Nat.ne_of_gt (Nat.lt_of_lt_of_le HB.out.lt hb),fun e => Nat.lt_irrefl _ (Nat.lt_of_lt_of_le (HO.out.lt _ e).2 hb)⟩) HST.out).mono ?_
       rintro e w19 ⟨x_k,rfl,ht9,hst9⟩
       replace HX:=bT HX ht9 NE
       replace HB:=bT HB ht9 NB
       replace HO:=Lib.hid (HO.out.turned ht9 (row_ne HO.out HQ.out))
       replace HZ:=zT HZ ht9
       replace HT:=tT HT ht9
       replace HST:=Lib.hid hst9
       clear ht9 hst9
       obtain ⟨o9,ho9⟩:=oN x_k
       replace HX:=bA HX o9
       replace HB:=bA HB o9
       replace HO:=oA HO o9
       replace HST:=Lib.hid (HST.out.below (bl _ o9))
       replace HT:=tA HT o9
       replace HZ:=zA HZ o9
       subst ho9
       replace HST:=Lib.hid (ST1.congrL (K':=fun t u ls n s => (fun (t u : Nd) (ls : List Nd) s => if seesP E.L ⟨#[44]⟩ s = true then (run E.L E.e g2 (.argsL ls.tail) (stepP s)).bind (callK E g t (hdN ls)) else callK E g t (hdN ls) (ndL ls.tail) s) t u (ls ++ [n]) s) HST.out (fun t u ls n s hl => by
        have h1 : 1 ≤ ls.length:=hl ▸ HL1.out
        dsimp only
        rw [(tail_app h1 n).1,(tail_app h1 n).2]))
       have HZ0:=HZ
       obtain ⟨o9,ho9⟩:=oN x_k
       replace HX:=bA HX o9
       replace HB:=bA HB o9
       replace HO:=oA HO o9
       replace HST:=Lib.hid (HST.out.below (bl _ o9))
       replace HT:=tA HT o9
       replace HZ:=zA HZ o9
       subst ho9
       have LIE:=lN2 w19 x_k
       have BD1 : Hid ((xs_r).length ≤ 1000000):=by have:=HL.out;show _ ≤ _;omega
       have BD2 : Hid ([x_k].length ≤ 1000000):=by show _ ≤ _;simp
       go_wp2_with (at_builtin;refine wpList_joinNd rfl _ _ rfl (w.heap.size + 1) _ _ rfl HO.out (some ⟨w19.heap.size + 1,0,none⟩) [x_k] 1 rfl LIE.out BD1.out BD2.out HZ.out ?_;intro A20 n21 c22 w23 hown hgr hpl;have HOWN:=Lib.hid hown;have HGR:=Lib.hid hgr;have HPL:=Lib.hid hpl;clear hown hgr hpl)
       replace HX:=Lib.hid (HX.out.grown HGR.out (row_nw HO.out))
       have HB8 : Hid (∀ k,(Value.slice A20 n21 c22).ownBlock = some k → k ≠ b1):=fun k hk => (HPL.out k hk).elim (fun e => NB1.out k e) (fun e => e ▸ Nat.ne_of_gt HB.out.lt)
       replace HB:=Lib.hid (HB.out.grown HGR.out (fun e => NB1.out _ e.symm rfl))
       replace NB1:=HB8
       clear HB8
       replace HZ:=Lib.hid (Nat.lt_of_lt_of_le HZ.out HGR.out.size)
       replace HT:=Lib.hid (HT.out.grown HGR.out (fun k e => .inr (row_ge HO.out k e)))
       replace HST:=Lib.hid (ST1.push2 (K:=(fun (t u : Nd) (ls : List Nd) s => if seesP E.L ⟨#[44]⟩ s = true then (run E.L E.e g2 (.argsL ls.tail) (stepP s)).bind (callK E g t (hdN ls)) else callK E g t (hdN ls) (ndL ls.tail) s)) HST.out HE.out HQ.out HO.out HGR.out HPL.out)
       replace HO:=HOWN
       clear LIE HGR HPL HOWN
       refine (st_sees (sr2_ne HQ.out) _ HST.out).mono ?_
       rintro e w24 ⟨b9,rfl,ht9,hy9,hn9⟩
       replace HX:=bT HX ht9 NE
       replace HB:=bT HB ht9 NB
       replace HO:=Lib.hid (HO.out.turned ht9 (row_ne HO.out HQ.out))
       replace HZ:=zT HZ ht9
       replace HT:=tT HT ht9
       clear ht9 HST
       cases b9
       ·have HST:=Lib.hid (hn9 rfl)
        clear hy9 hn9
        replace HST:=Lib.hid (ST.congrL (K':=fun (t u : Nd) (ls : List Nd) s => (wantP E.L E.e ⟨#[41]⟩ s).bind fun _ s => (fun (t u : Nd) (ls : List Nd) s => run E.L E.e g (.callL (.mk 25 t.text 0 ls)) ⟨s.i,s.dep,s.many + 1⟩) t u ls s) HST.out (fun t u ls s hl => by
         have h1 : 1 ≤ ls.length:=hl ▸ (by have:=HL1.out;simp)
         have h2:=hd_tail h1
         dsimp only [callK,ndL,Nd.kids]
         rw [h2]))
        go_wp2_with fail
        refine (st_want (sr2_ne HQ.out) _ HST.out).mono ?_
        rintro e w25 ⟨rfl,ht9,hst9⟩
        replace HX:=bT HX ht9 NE
        replace HB:=bT HB ht9 NB
        replace HO:=Lib.hid (HO.out.turned ht9 (row_ne HO.out HQ.out))
        replace HZ:=zT HZ ht9
        replace HT:=tT HT ht9
        replace HST:=Lib.hid hst9
        clear ht9 hst9
        go_wp2_with fail
        replace HST : Hid (ST E rr _ (fun (t u : Nd) (ls : List Nd) s => (fun (t u : Nd) (ls : List Nd) s => (fun n s => run E.L E.e g (.callL n) s) (.mk 25 t.text 0 ls) s) t u ls ⟨s.i,s.dep,s.many + 1⟩) _ _ _ _ _):=HST.out
        refine (st_node (sr2_ne HQ.out) 25 _ _ _ _ HST.out).mono ?_
        rintro e w26 ⟨rfl,ht9,hst9⟩
        replace HX:=bT HX ht9 NE
        replace HB:=bT HB ht9 NB
        replace HO:=Lib.hid (HO.out.turned ht9 (row_ne HO.out HQ.out))
        replace HZ:=zT HZ ht9
        replace HT:=tT HT ht9
        replace HST:=Lib.hid hst9
        clear ht9 hst9
        obtain ⟨y0,y1,y2,y3,e0,e1,e2,e3,el⟩:=HB.out.f4
        go_wp2_with fail
        clear y0 y1 y2 y3 e0 e1 e2 e3 el
        obtain ⟨f1,f2,f3,f4,f5⟩:=st_box (K:=fun n s => run E.L E.e g (.callL n) s) HE.out HQ.out HT.out HO.out HB.out HZB.out NB1.out HST.out rfl
        go_roundw
        case rel => exact ⟨i + 1,by go_num,by omega,f1,by rw [f2];exact HZ.out,f4 _ _ _ (Nat.ne_of_lt HZB.out) HX.out,⟨25,_,0,_,_,_⟩,_,_,g,f3,hgf,f5.low (by omega)⟩
        case measure => simp [intOf];omega
       ·have HST:=Lib.hid (hy9 rfl)
        clear hy9 hn9
        obtain ⟨i9,hlo9,hi9,hfw9,⟨d9,m9,hq9⟩,hst9,ht9⟩:=STG.step (K:=(fun (t u : Nd) (ls : List Nd) s => (run E.L E.e g2 (.argsL ls.tail) s).bind (callK E g t (hdN ls)))) HST.out (sr2_ne HQ.out)
        have hw9 : IntKind.i64.wrap ((i9 : Int) + 1) = (i9 : Int) + 1:=IntWalk.i64_in _ (by omega)
        obtain ⟨z0,z1,z2,z3,z4,z5,z6,z7,z8,z9,z10,z11,zl⟩:=hq9.f7
        replace HX:=bT HX ht9 NE
        replace HB:=bT HB ht9 NB
        replace HO:=Lib.hid (HO.out.turned ht9 (row_ne HO.out HQ.out))
        replace HZ:=zT HZ ht9
        replace HT:=tT HT ht9
        replace HST:=Lib.hid hst9
        clear ht9 hst9
        replace HST:=Lib.hid HST.out.st
        go_wp2_with fail
        clear z0 z1 z2 z3 z4 z5 z6 z7 z8 z9 z10 z11 zl hw9
        go_roundw
        case rel => exact ⟨j + 1,false,by go_num,rfl,by omega,HT.out,HZ.out,HX.out,HB.out,_,_,_,_,_,rfl,HO.out,by have:=HL.out;simp;omega,by simp,NB1.out,(fun h => by cases h),(fun _ => ⟨g2,hg2,HST.out.low (by omega)⟩)⟩
        case measure => simp [intOf];omega
      ·have HST : Hid (ST E rr wr (fun (t u : Nd) ls s => callK E g t (hdN ls) (ndL ls.tail) s) t uv xs_r (SR2 w b1 (.slice A_r n_r c_r)) (i + 1 + j)):=.inr ⟨c1,p1,hr1,hs1⟩
       obtain ⟨i8,d8,m8,hq8⟩:=hs1.blk
       obtain ⟨z0,z1,z2,z3,z4,z5,z6,z7,z8,z9,z10,z11,zl⟩:=hq8.f7
       have hc8:=hs1.ne
       clear hq8 hr1 hs1
       replace HST:=Lib.hid (ST.congrL (K':=fun (t u : Nd) (ls : List Nd) s => (wantP E.L E.e ⟨#[41]⟩ s).bind fun _ s => (fun (t u : Nd) (ls : List Nd) s => run E.L E.e g (.callL (.mk 25 t.text 0 ls)) ⟨s.i,s.dep,s.many + 1⟩) t u ls s) HST.out (fun t u ls s hl => by
        have h1 : 1 ≤ ls.length:=hl ▸ HL1.out
        have h2:=hd_tail h1
        dsimp only [callK,ndL,Nd.kids]
        rw [h2]))
       go_wp2_with fail
       clear z0 z1 z2 z3 z4 z5 z6 z7 z8 z9 z10 z11 zl hc8
       refine (st_want (sr2_ne HQ.out) _ HST.out).mono ?_
       rintro e w27 ⟨rfl,ht9,hst9⟩
       replace HX:=bT HX ht9 NE
       replace HB:=bT HB ht9 NB
       replace HO:=Lib.hid (HO.out.turned ht9 (row_ne HO.out HQ.out))
       replace HZ:=zT HZ ht9
       replace HT:=tT HT ht9
       replace HST:=Lib.hid hst9
       clear ht9 hst9
       go_wp2_with fail
       replace HST : Hid (ST E rr _ (fun (t u : Nd) (ls : List Nd) s => (fun (t u : Nd) (ls : List Nd) s => (fun n s => run E.L E.e g (.callL n) s) (.mk 25 t.text 0 ls) s) t u ls ⟨s.i,s.dep,s.many + 1⟩) _ _ _ _ _):=HST.out
       refine (st_node (sr2_ne HQ.out) 25 _ _ _ _ HST.out).mono ?_
       rintro e w28 ⟨rfl,ht9,hst9⟩
       replace HX:=bT HX ht9 NE
       replace HB:=bT HB ht9 NB
       replace HO:=Lib.hid (HO.out.turned ht9 (row_ne HO.out HQ.out))
       replace HZ:=zT HZ ht9
       replace HT:=tT HT ht9
       replace HST:=Lib.hid hst9
       clear ht9 hst9
       obtain ⟨y0,y1,y2,y3,e0,e1,e2,e3,el⟩:=HB.out.f4
       go_wp2_with fail
       clear y0 y1 y2 y3 e0 e1 e2 e3 el
       obtain ⟨f1,f2,f3,f4,f5⟩:=st_box (K:=fun n s => run E.L E.e g (.callL n) s) HE.out HQ.out HT.out HO.out HB.out HZB.out NB1.out HST.out rfl
       go_roundw
       case rel => exact ⟨i + 1,by go_num,by omega,f1,by rw [f2];exact HZ.out,f4 _ _ _ (Nat.ne_of_lt HZB.out) HX.out,⟨25,_,0,_,_,_⟩,_,_,g,f3,hgf,f5.low (by omega)⟩
       case measure => simp [intOf];omega
     ·have HST:=Lib.hid (hst1 rfl)
      clear hst1 hst2
      obtain ⟨i8,d8,m8,c8,p8,hq8⟩:=HST.out.cells
      obtain ⟨z0,z1,z2,z3,z4,z5,z6,z7,z8,z9,z10,z11,zl⟩:=hq8.f7
      replace HST:=Lib.hid (ST.congrL (K':=fun (t u : Nd) (ls : List Nd) s => (wantP E.L E.e ⟨#[41]⟩ s).bind fun _ s => (fun (t u : Nd) (ls : List Nd) s => run E.L E.e g (.callL (.mk 25 t.text 0 ls)) ⟨s.i,s.dep,s.many + 1⟩) t u ls s) HST.out (fun t u ls s hl => by
       have h1 : 1 ≤ ls.length:=hl ▸ HL1.out
       have h2:=hd_tail h1
       dsimp only [callK,ndL,Nd.kids]
       rw [h2]))
      go_wp2_with fail
      clear z0 z1 z2 z3 z4 z5 z6 z7 z8 z9 z10 z11 zl hq8
      refine (st_want (sr2_ne HQ.out) _ HST.out).mono ?_
      rintro e w29 ⟨rfl,ht9,hst9⟩
      replace HX:=bT HX ht9 NE
      replace HB:=bT HB ht9 NB
      replace HO:=Lib.hid (HO.out.turned ht9 (row_ne HO.out HQ.out))
      replace HZ:=zT HZ ht9
      replace HT:=tT HT ht9
      replace HST:=Lib.hid hst9
      clear ht9 hst9
      go_wp2_with fail
      replace HST : Hid (ST E rr _ (fun (t u : Nd) (ls : List Nd) s => (fun (t u : Nd) (ls : List Nd) s => (fun n s => run E.L E.e g (.callL n) s) (.mk 25 t.text 0 ls) s) t u ls ⟨s.i,s.dep,s.many + 1⟩) _ _ _ _ _):=HST.out
      refine (st_node (sr2_ne HQ.out) 25 _ _ _ _ HST.out).mono ?_
      rintro e w30 ⟨rfl,ht9,hst9⟩
      replace HX:=bT HX ht9 NE
      replace HB:=bT HB ht9 NB
      replace HO:=Lib.hid (HO.out.turned ht9 (row_ne HO.out HQ.out))
      replace HZ:=zT HZ ht9
      replace HT:=tT HT ht9
      replace HST:=Lib.hid hst9
      clear ht9 hst9
      obtain ⟨y0,y1,y2,y3,e0,e1,e2,e3,el⟩:=HB.out.f4
      go_wp2_with fail
      clear y0 y1 y2 y3 e0 e1 e2 e3 el
      obtain ⟨f1,f2,f3,f4,f5⟩:=st_box (K:=fun n s => run E.L E.e g (.callL n) s) HE.out HQ.out HT.out HO.out HB.out HZB.out NB1.out HST.out rfl
      go_roundw
      case rel => exact ⟨i + 1,by go_num,by omega,f1,by rw [f2];exact HZ.out,f4 _ _ _ (Nat.ne_of_lt HZB.out) HX.out,⟨25,_,0,_,_,_⟩,_,_,g,f3,hgf,f5.low (by omega)⟩
      case measure => simp [intOf];omega
end Go.Proofs.YtbpldfmmlgkfnaaGreatDoor

namespace Go.Proofs.YtbpldfmmlgkfnaaGreatDoor
open Go.RowKit
set_option linter.unusedVariables false
/-- A program: what stands behind its classes. -/
def progK (E : Env) (f : Nat) (a : Nd) (s : PS) : Res:=(wantP E.L E.e ⟨#[109,97,105,110]⟩ s).bind fun _ s => (run E.L E.e f .block s).bind fun b s => .ok (.mk 1 ⟨#[]⟩ 0 (a.kids ++ [b])) ⟨s.i,s.dep,s.many + 1⟩
def progP (E : Env) (f : Nat) (s : PS) : Res:=(run E.L E.e f (.clsL []) s).bind (progK E f)
def PInv (w : World) (E : Env) (rr : Res) (f i : Nat) (v : Value) (wr : World) : Prop :=
 Turned w wr (fun b => b = E.Q) ∧ w.heap.size < wr.heap.size ∧ Blk wr w.heap.size 24 #[.int .i64 0,.string ⟨#[]⟩,.int .i64 0,.slice none 0 0] ∧
  ∃ A n c xs tv uv,v = .slice A n c ∧ OwnN wr (w.heap.size + 1) (.slice A n c) xs ∧ xs.length ≤ i ∧ ∃ g,g ≤ f ∧ ST E rr wr (fun t u ls s => (run E.L E.e g (.clsL ls) s).bind (progK E f)) tv uv xs (SR w (.slice A n c)) i
theorem cls_open {E : Env} {rr : Res} {w : World} {tv uv : ByteArray} {xs : List NV} {S : Nat → Prop} {i f g : Nat} (ho : rr ≠ .out) (hg : g ≤ f) (h : ST E rr w (fun t u ls s => (run E.L E.e g (.clsL ls) s).bind (progK E f)) tv uv xs S i) :
  ∃ g',g' ≤ f ∧ ST E rr w (fun t u ls s => if seesP E.L ⟨#[99,108,97,115,115]⟩ s = true then (run E.L E.e g' .cls (stepP s)).bind fun k s => (run E.L E.e g' (.clsL (ls ++ [k])) s).bind (progK E f) else progK E f (ndL ls) s) tv uv xs S i:=by
 cases g with
 | zero => exact ⟨0,Nat.zero_le _,h.out ho (fun t u ls s => rfl)⟩
 | succ g =>
  refine ⟨g,Nat.le_of_succ_le hg,h.congr (fun t u ls s => ?_)⟩
  simp only [run,tx_class]
  split
  ·rw [bind_assoc]
  ·rfl

set_option maxRecDepth 100000 in
set_option maxHeartbeats 1600000 in
theorem rprogram_any {f : Nat} (ihK : ∀ g,g ≤ f → RCall g .cls 68) (ihB : RCall f .block 70) (bdB : RFlat 70) {E : Env} {s : PS} {w : World} (h : RGood w E s) (hout : progP E f s ≠ .out) : Calls Tryz.prog 35 #[.pointer (some ⟨E.Q,0,none⟩)] w (REnd E (progP E f s) w):=by
 have hE : RAt w E (.ok nd0 s):=h
 have HO0:=Lib.hid hout
 generalize hrr : progP E f s = rr at *
 have hr : rr = (fun (t u : Nd) ls s => (run E.L E.e f (.clsL ls) s).bind (progK E f)) nd0 nd0 [] s:=hrr.symm
 clear hrr hout
 have HE:=Lib.hid hE.env
 have HQ:=Lib.hid hE.old
 have NE : Hid (¬ w.heap.size = E.Q):=by have:=hE.old;show ¬ _;omega
 have hfew:=h.env.few
 obtain ⟨o9,ho9⟩:=oZ
 have hb0:=bl w o9
 have HT:=Lib.hid (Turned.of_below (fun b => b = E.Q) hb0)
 have HX:=zB w
 have HZ:=zN w o9
 have HO:=Lib.hid (OwnN.nil (w.alloc o9) (w.heap.size + 1))
 subst ho9
 have HST : Hid (ST E rr (w.alloc (.cells #[.int .i64 0,.string ⟨#[]⟩,.int .i64 0,.slice none 0 0] 24)) (fun t u ls s => (run E.L E.e f (.clsL ls) s).bind (progK E f)) ByteArray.empty ByteArray.empty [] (SR w (.slice none 0 0)) 0):=ST.below (K:=(fun t u ls s => (run E.L E.e f (.clsL ls) s).bind (progK E f))) (.inl ⟨nd0,nd0,[],s,hr,h,rfl,rfl,AllN.nil _ _,Nat.zero_le _⟩) hb0
 clear h hE hb0 hr
 go_enter Tryz.func35,Tryz.ntmps35
 go_wp2_with fail
 generalize (w.alloc (.cells #[.int .i64 0,.string ⟨#[]⟩,.int .i64 0,.slice none 0 0] 24)) = w1 at *
 go_loopw [3,4] (fun v u wr => ∃ i : Nat,u = .int .i64 (i : Int) ∧ i ≤ E.L.length ∧ PInv w E rr f i v wr) (fun _ u _ => E.L.length + 1 - (intOf u).toNat)
 case atStart => exact ⟨0,rfl,Nat.zero_le _,HT.out,HZ.out,HX.out,_,_,_,_,_,_,rfl,HO.out,Nat.le_refl _,f,Nat.le_refl _,HST.out⟩
 case round =>
  clear HT HZ HX HO HST
  obtain ⟨i,rfl,hi,ht,hz,hx,A_r,n_r,c_r,xs_r,tv,uv,rfl,ho,hl,g0,hg0,hst⟩:=hrel
  obtain ⟨g,hgf,hst⟩:=cls_open HO0.out hg0 hst
  have HT:=Lib.hid ht
  have HZ:=Lib.hid hz
  have HX:=Lib.hid hx
  have HO:=Lib.hid ho
  have HL:=Lib.hid hl
  have HST:=Lib.hid hst
  clear ht hz hx ho hl hst hg0
  have hwi : IntKind.i64.wrap ((i : Int) + 1) = (i : Int) + 1:=IntWalk.i64_in _ (by omega)
  obtain ⟨i8,d8,m8,c8,p8,hq8⟩:=HST.out.cells
  obtain ⟨z0,z1,z2,z3,z4,z5,z6,z7,z8,z9,z10,z11,zl⟩:=hq8.f7
  go_wp2_with fail
  clear z0 z1 z2 z3 z4 z5 z6 z7 z8 z9 z10 z11 zl hq8
  refine (st_sees (sr_ne HQ.out) _ HST.out).mono ?_
  rintro e w2 ⟨b9,rfl,ht9,hy9,hn9⟩
  replace HX:=bT HX ht9 NE
  replace HO:=Lib.hid (HO.out.turned ht9 (row_ne HO.out HQ.out))
  replace HZ:=zT HZ ht9
  replace HT:=tT HT ht9
  clear ht9 HST
  cases b9
  ·have HST:=Lib.hid (hn9 rfl)
   clear hy9 hn9
   replace HST : Hid (ST E rr _ (fun t u ls s => (wantP E.L E.e ⟨#[109,97,105,110]⟩ s).bind fun _ s => (run E.L E.e f .block s).bind fun b s => Res.ok (.mk 1 ⟨#[]⟩ 0 (ls ++ [b])) ⟨s.i,s.dep,s.many + 1⟩) _ _ _ _ _):=HST.out
   go_wp2_with fail
   refine (st_want (sr_ne HQ.out) _ HST.out).mono ?_
   rintro e w3 ⟨rfl,ht9,hst9⟩
   replace HX:=bT HX ht9 NE
   replace HO:=Lib.hid (HO.out.turned ht9 (row_ne HO.out HQ.out))
   replace HZ:=zT HZ ht9
   replace HT:=tT HT ht9
   replace HST:=Lib.hid hst9
   clear ht9 hst9
   go_wp2_with fail
   refine (st_call (sr_ne HQ.out) ihB bdB HO0.out (fun b hb => ⟨Nat.lt_of_lt_of_le HZ.out hb,fun e => Nat.lt_irrefl _ (Nat.lt_of_lt_of_le (HO.out.lt _ e).2 hb)⟩) HST.out).mono ?_
   rintro e w4 ⟨x_b,rfl,ht9,hst9⟩
   replace HX:=bT HX ht9 NE
   replace HO:=Lib.hid (HO.out.turned ht9 (row_ne HO.out HQ.out))
   replace HZ:=zT HZ ht9
   replace HT:=tT HT ht9
   replace HST:=Lib.hid hst9
   clear ht9 hst9
   obtain ⟨o9,ho9⟩:=oN x_b
   replace HX:=bA HX o9
   replace HO:=oA HO o9
   replace HST:=Lib.hid (HST.out.below (bl _ o9))
   replace HT:=tA HT o9
   replace HZ:=zA HZ o9
   have HZ0:=HZ
   replace HX:=bA HX o9
   replace HO:=oA HO o9
   replace HST:=Lib.hid (HST.out.below (bl _ o9))
   replace HT:=tA HT o9
   replace HZ:=zA HZ o9
   subst ho9
   have LIE:=lN2 w4 x_b
   have BD1 : Hid ((xs_r).length ≤ 1000000):=by have:=HL.out;show _ ≤ _;omega
   have BD2 : Hid ([x_b].length ≤ 1000000):=by show _ ≤ _;simp
   go_wp2_with (at_builtin;refine wpList_joinNd rfl _ _ rfl (w.heap.size + 1) _ _ rfl HO.out (some ⟨w4.heap.size + 1,0,none⟩) [x_b] 1 rfl LIE.out BD1.out BD2.out HZ.out ?_;intro A5 n6 c7 w8 hown hgr hpl;have HOWN:=Lib.hid hown;have HGR:=Lib.hid hgr;have HPL:=Lib.hid hpl;clear hown hgr hpl)
   replace HX:=Lib.hid (HX.out.grown HGR.out (row_nw HO.out))
   replace HZ:=Lib.hid (Nat.lt_of_lt_of_le HZ.out HGR.out.size)
   replace HT:=Lib.hid (HT.out.grown HGR.out (fun k e => .inr (row_ge HO.out k e)))
   replace HST:=Lib.hid (ST1.push (K:=(fun t u ls s => Res.ok (.mk 1 ⟨#[]⟩ 0 ls) ⟨s.i,s.dep,s.many + 1⟩)) HST.out HE.out HQ.out HO.out HGR.out HPL.out)
   replace HO:=HOWN
   clear LIE HGR HPL HOWN
   replace HST : Hid (ST E rr _ (fun t u ls s => (fun t u ls s => Res.ok (.mk 1 ⟨#[]⟩ 0 ls) s) t u ls ⟨s.i,s.dep,s.many + 1⟩) _ _ _ _ _):=HST.out
   refine (st_node (sr_ne HQ.out) 1 _ _ _ _ HST.out).mono ?_
   rintro e w9 ⟨rfl,ht9,hst9⟩
   replace HX:=bT HX ht9 NE
   replace HO:=Lib.hid (HO.out.turned ht9 (row_ne HO.out HQ.out))
   replace HZ:=zT HZ ht9
   replace HT:=tT HT ht9
   replace HST:=Lib.hid hst9
   clear ht9 hst9
   obtain ⟨u0,u1,u2,u3,g0,g1,g2,g3,gl⟩:=HX.out.f4
   go_wp2_with fail
   clear u0 u1 u2 u3 g0 g1 g2 g3 gl
   have HEND:=Lib.hid (st_end HE.out HQ.out HT.out HO.out HX.out (fun _ => ⟨#[]⟩) (fun _ _ => rfl) (fun _ => 0) (fun _ _ => rfl) HST.out rfl)
   refine open_post (fun W => Blk W w.heap.size 24 #[.int .i64 1,.string ⟨#[]⟩,.int .i64 0,.slice A5 n6 c7] ∧ REnd E rr w (.returned (.agg #[.int .i64 1,.string ⟨#[]⟩,.int .i64 0,.slice A5 n6 c7])) W) HEND.out ?_
   rintro W ⟨hb,hE⟩
   obtain ⟨v0,v1,v2,v3,-⟩:=hb.f4
   exact bodyPost_ret (v:=.agg #[.int .i64 1,.string ⟨#[]⟩,.int .i64 0,.slice A5 n6 c7]) (by simp [results,Tryz.results35,go_sem,v0,v1,v2,v3]) rfl hE
  ·have HST:=Lib.hid (hy9 rfl)
   clear hy9 hn9
   obtain ⟨i9,hlo9,hi9,hfw9,⟨d9,m9,hq9⟩,hst9,ht9⟩:=STG.step (K:=(fun t u ls s => (run E.L E.e g .cls s).bind fun k s => (run E.L E.e g (.clsL (ls ++ [k])) s).bind (progK E f))) HST.out (sr_ne HQ.out)
   have hw9 : IntKind.i64.wrap ((i9 : Int) + 1) = (i9 : Int) + 1:=IntWalk.i64_in _ (by omega)
   obtain ⟨z0,z1,z2,z3,z4,z5,z6,z7,z8,z9,z10,z11,zl⟩:=hq9.f7
   replace HX:=bT HX ht9 NE
   replace HO:=Lib.hid (HO.out.turned ht9 (row_ne HO.out HQ.out))
   replace HZ:=zT HZ ht9
   replace HT:=tT HT ht9
   replace HST:=Lib.hid hst9
   clear ht9 hst9
   go_wp2_with fail
   clear z0 z1 z2 z3 z4 z5 z6 z7 z8 z9 z10 z11 zl hw9 hq9
   generalize (World.setCell w2 ⟨E.Q,2,none⟩ (.int .i64 ((i9 : Int) + 1))) = w10 at *
   refine (sto_call (sr_ne HQ.out) (ihK g hgf)  HO0.out (fun b hb => ⟨Nat.lt_of_lt_of_le HZ.out hb,fun e => Nat.lt_irrefl _ (Nat.lt_of_lt_of_le (HO.out.lt _ e).2 hb)⟩) HST.out).mono ?_
   rintro e w11 ⟨x_k,rfl,ht9,hst9⟩
   replace HX:=bT HX ht9 NE
   replace HO:=Lib.hid (HO.out.turned ht9 (row_ne HO.out HQ.out))
   replace HZ:=zT HZ ht9
   replace HT:=tT HT ht9
   replace HST:=Lib.hid hst9
   clear ht9 hst9
   obtain ⟨o9,ho9⟩:=oN x_k
   replace HX:=bA HX o9
   replace HO:=oA HO o9
   replace HST:=Lib.hid (HST.out.below (bl _ o9))
   replace HT:=tA HT o9
   replace HZ:=zA HZ o9
   have HZ0:=HZ
   replace HX:=bA HX o9
   replace HO:=oA HO o9
   replace HST:=Lib.hid (HST.out.below (bl _ o9))
   replace HT:=tA HT o9
   replace HZ:=zA HZ o9
   subst ho9
   have LIE:=lN2 w11 x_k
   have BD1 : Hid ((xs_r).length ≤ 1000000):=by have:=HL.out;show _ ≤ _;omega
   have BD2 : Hid ([x_k].length ≤ 1000000):=by show _ ≤ _;simp
   go_wp2_with (at_builtin;refine wpList_joinNd rfl _ _ rfl (w.heap.size + 1) _ _ rfl HO.out (some ⟨w11.heap.size + 1,0,none⟩) [x_k] 1 rfl LIE.out BD1.out BD2.out HZ.out ?_;intro A12 n13 c14 w15 hown hgr hpl;have HOWN:=Lib.hid hown;have HGR:=Lib.hid hgr;have HPL:=Lib.hid hpl;clear hown hgr hpl)
   replace HX:=Lib.hid (HX.out.grown HGR.out (row_nw HO.out))
   replace HZ:=Lib.hid (Nat.lt_of_lt_of_le HZ.out HGR.out.size)
   replace HT:=Lib.hid (HT.out.grown HGR.out (fun k e => .inr (row_ge HO.out k e)))
   replace HST:=Lib.hid (ST1.push (K:=(fun t u ls s => (run E.L E.e g (.clsL ls) s).bind (progK E f))) HST.out HE.out HQ.out HO.out HGR.out HPL.out)
   replace HO:=HOWN
   clear LIE HGR HPL HOWN
   go_roundw
   case rel => exact ⟨i + 1,by go_num,by omega,HT.out,HZ.out,HX.out,_,_,_,_,_,_,rfl,HO.out,by have:=HL.out;simp;omega,g,hgf,HST.out⟩
   case measure => simp [intOf];omega
end Go.Proofs.YtbpldfmmlgkfnaaGreatDoor
