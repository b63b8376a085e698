/- The program's parser: calls. Conditions: what expressions and primaries do. -/
import Derived.Test.YtbpldfmmlgkfnaaGreatDoorEMemZ
import Derived.Test.YtbpldfmmlgkfnaaGreatDoorEPpL
namespace Go.Proofs.YtbpldfmmlgkfnaaGreatDoor
open Go.RowKit
set_option linter.unusedVariables false
theorem step_joinNd {w : World} {ops : Array Oper} {o : Oper} {a : Act} {K : Act → World → Prop} {Q : Exit → Act → World → Prop} {E : Prop} (hgd : o.guard = none) (s x : Operand)
  (ho : o.op = .call { callee:=.builtin .append,args:=#[s,x],argTypes:=#[22,22] }) (base : Nat) (v : Value) (xs : List NV) (hs : a.eval s = v) (hown : OwnN w base v xs) (A : Option Addr) (m : List NV) (c : Nat)
  (hx : a.eval x = .slice A m.length c) (hy : LieN w A m) (h1 : xs.length ≤ 1000000) (h2 : m.length ≤ 1000000) (hbase : base ≤ w.heap.size)
  (h : ∀ A' n c' w',OwnN w' base (.slice A' n c') (xs ++ m) → w.grownBy w' v.ownBlock → (∀ k,(Value.slice A' n c').ownBlock = some k → v.ownBlock = some k ∨ k = w.heap.size) → K (a.put o.dst (.slice A' n c')) w') :
  if Region.wanted o (yielded ops a.tmps) = true then Oper.wp Tryz.prog o a w K Q else E:=by
 have hw : Region.wanted o (yielded ops a.tmps) = true:=by simp [Region.wanted,hgd]
 rw [if_pos hw]
 obtain ⟨A',n,c',w',hrun,g2,g3,g4⟩:=run_joinNd hown c hy h1 h2 hbase o.type
 unfold Oper.wp execOp
 simp only [ho,resolve,invoke,builtin,Sem.run_bind,Sem.run_pure,Result.andThen_ok,List.map_toArray,List.map_cons,List.map_nil,hs,hx,hrun]
 exact h A' n c' w' g2 g3 g4
theorem OwnN.lie {w : World} {base : Nat} {A : Option Addr} {k c : Nat} {xs : List NV} (h : OwnN w base (.slice A k c) xs) : k = xs.length ∧ LieN w A xs:=by
 obtain ⟨A9,c9,e9,-,-⟩:=h.form
 cases e9
 refine ⟨rfl,fun hl => ?_⟩
 rcases h.2 with ⟨h1,h0⟩ | ⟨g,cap,cur,h1,hb,hh,hn,_,hc,ht⟩
 ·omega
 ·cases h1
  refine ⟨_,rfl,fun j u hj => ?_⟩
  have e : ((⟨g,0,none⟩ : Addr).add j) = ⟨g,j,none⟩:=by
   unfold Addr.add
   cases j with
   | zero => rfl
   | succ j => simp
  rw [e,cell_of_row w g j cur 24 (0,0) hh]
  rw [← ht,List.getElem?_take] at hj
  split at hj
  ·simpa using hj
  ·cases hj
/-- Behind the call of list and the row of one, whichever came first. -/
structure CallF (w : World) (E : Env) (rr : Res) (b1 g1 : Nat) (K : Nd → List Nd → PS → Res) (tv : ByteArray) (x : NV) (lo : Nat) (W : World) (ys : List NV) (A : Option Addr) : Prop where
 own : OwnN W (w.heap.size + 1) (.slice (some ⟨g1,0,none⟩) 1 1) [x]
 lie : LieN W A ys
 few : ys.length ≤ 1000000
 turn : Turned w W (fun b => b = E.Q)
 hx : Blk W w.heap.size 24 #[.int .i64 0,.string ⟨#[]⟩,.int .i64 0,.slice none 0 0]
 hb : Blk W b1 24 #[.int .i64 x.kind,.string x.text,.int .i64 x.num,.slice x.a x.len x.cap]
 ne : g1 ≠ b1
 big : w.heap.size + 1 ≤ W.heap.size
 at_ : ∃ t ls s,rr = K t ls s ∧ PAt W E s ∧ tv = t.text ∧ AllN W (fun b => w.heap.size < b ∧ b ≠ b1 ∧ b ≠ g1) (x :: ys) ls ∧ lo ≤ s.i
/-- What is appended: one row of all. -/
theorem CallF.next {w W W' : World} {E : Env} {rr : Res} {b1 g1 : Nat} {K : Nd → List Nd → PS → Res} {tv : ByteArray} {x : NV} {lo : Nat} {ys : List NV} {A A' : Option Addr} {n c : Nat} (h : CallF w E rr b1 g1 K tv x lo W ys A) (hQ : E.Q < w.heap.size) (hb1 : w.heap.size < b1) (hg : W.grownBy W' (some g1)) (hp : ∀ k,(Value.slice A' n c).ownBlock = some k → (Value.slice (some ⟨g1,0,none⟩) 1 1).ownBlock = some k ∨ k = W.heap.size) :
  PT E rr W' (fun t _ ls s => K t ls s) tv ByteArray.empty (x :: ys) (SR2 w b1 (.slice A' n c)) lo ∧ Turned w W' (fun b => b = E.Q) ∧ Blk W' w.heap.size 24 #[.int .i64 0,.string ⟨#[]⟩,.int .i64 0,.slice none 0 0] ∧ Blk W' b1 24 #[.int .i64 x.kind,.string x.text,.int .i64 x.num,.slice x.a x.len x.cap] ∧ (∀ k,(Value.slice A' n c).ownBlock = some k → k ≠ b1):=by
 have hg1 : w.heap.size + 1 ≤ g1:=(h.own.lt g1 rfl).1
 have hg1l : g1 < W.heap.size:=(h.own.lt g1 rfl).2
 have hbl:=h.hb.lt
 have hp2 : ∀ k,(Value.slice A' n c).ownBlock = some k → k = g1 ∨ k = W.heap.size:=fun k hk => (hp k hk).imp (fun e => (Option.some.inj e).symm) (fun e => e)
 obtain ⟨t,ls,s,k1,k2,k3,k4,k5⟩:=h.at_
 refine ⟨⟨t,nd0,ls,s,k1,k2.grown hg (fun k e => by cases e;omega),k3,rfl,k4.kept hg.size (fun b hb hs => hg.block b hb (fun e => hs.2.2 (Option.some.inj e))) (fun b hb hs => ⟨hs.1,hs.2.1,fun e => ?_⟩),k5⟩,h.turn.grown hg (fun k e => .inr (by cases e;omega)),h.hx.grown hg (fun e => by have e2:=Option.some.inj e;omega),h.hb.grown hg (fun e => h.ne (Option.some.inj e).symm),fun k hk e => ?_⟩
 ·rcases hp2 b e with h1 | h1
  ·exact hs.2.2 h1
  ·omega
 ·rcases hp2 k hk with h1 | h1
  ·exact h.ne (h1.symm.trans e)
  ·omega
def callA2 (E : Env) (g : Nat) (n : Nd) (s : PS) : Res:=(nameP E.L E.e s).bind fun t s => (listE E g s).bind fun a s => run E.L E.e g (.callL (.mk 25 t.text 0 (n :: a.kids))) ⟨s.i,s.dep,s.many + 1⟩
theorem callL_eq (E : Env) (g : Nat) (n : Nd) (s : PS) : run E.L E.e (g + 1) (.callL n) s = if seesP E.L ⟨#[46]⟩ s = true then callA2 E g n (stepP s) else .ok n s:=by
 simp only [run,tx_dot,tx_lp,tx_rp,nodeP,callA2,listE,finL,bind_assoc,ok_bind]
theorem mo_list (E : Env) (g : Nat) (s : PS) (n : Nd) (s' : PS) (h : listE E g s = .ok n s') : s.i ≤ s'.i:=by
 have hm : Mo (s.i + 1) (listE E g s):=by
  unfold listE
  refine mo_bind (lo:=s.i + 1) mo_want fun _ s1 h1 => ?_
  refine mo_bif (mo_ok (Nat.le_refl _)) (mo_run (run_mono E.L E.e g (.argsL []) s1) (Nat.le_add_right _ _)) fun a s2 h2 => ?_
  unfold finL
  exact mo_bind (lo:=s2.i + 1) mo_want fun _ s3 h3 => mo_ok (by omega)
 have:=hm n s' h
 omega
/-- list asked where the row of one lies already. -/
theorem call_listA {f : Nat} (ihX : ∀ g,g ≤ f → PCall g .expr 108) {w wk : World} {E : Env} {rr : Res} {b1 g : Nat} {K : Nd → List Nd → PS → Res} {tv uv : ByteArray} {x : NV} {lo : Nat} (hgf : g ≤ f) (ho : rr ≠ .out) (hQ : E.Q < w.heap.size) (hb1 : w.heap.size < b1) (ht : Turned w wk (fun b => b = E.Q)) (hx : Blk wk w.heap.size 24 #[.int .i64 0,.string ⟨#[]⟩,.int .i64 0,.slice none 0 0]) (hb : Blk wk b1 24 #[.int .i64 x.kind,.string x.text,.int .i64 x.num,.slice x.a x.len x.cap])
  (h : PT E rr wk (fun t _ ls s => (listE E g s).bind fun a s => K t (hdN ls :: a.kids) s) tv uv [x] (SB w b1) lo) :
  Calls Tryz.prog 91 #[.pointer (some ⟨E.Q,0,none⟩),.func (.func 108) #[.pointer (some ⟨E.Q,0,none⟩)] #[]] (wk.alloc (.cells #[.int .i64 x.kind,.string x.text,.int .i64 x.num,.slice x.a x.len x.cap] 24)) fun e w' => Turned w w' (fun b => b = E.Q) ∧ ((∃ A c ys,e = .returned (.slice A ys.length c) ∧ CallF w E rr b1 wk.heap.size K tv x lo w' ys A) ∨ (∃ c p,rr = .no c p ∧ c ≠ 0 ∧ e = thrown c p)):=by
 obtain ⟨t,u,ls,s,k1,k2,k3,k4,k5,k6⟩:=h
 match ls,k5.1,k1,k5 with
 | [n],_,k1,k5 =>
  have hout : listE E g s ≠ .out:=fun hx => ho (k1.trans (bind_out hx))
  have hz : (wk.alloc (.cells #[.int .i64 x.kind,.string x.text,.int .i64 x.num,.slice x.a x.len x.cap] 24)).heap.size = wk.heap.size + 1:=World.size_alloc _ _
  have hwk : w.heap.size < wk.heap.size:=Nat.lt_trans hb1 hb.lt
  have hbl:=hb.lt
  refine (plist_E (fun g' hg' => ihX g' (Nat.le_trans hg' hgf)) (k2.alloc _) hout).mono ?_
  rintro e w' ⟨ht9,⟨v,rfl,a,s',A,k,c,ys,hr,rfl,hs',hown,hall,hfew⟩ | ⟨c,p,hr,hc,rfl⟩⟩
  ·obtain ⟨rfl,hlie⟩:=hown.lie
   have hta : Turned w w' (fun b => b = E.Q):=(ht.alloc _).then ht9
   refine ⟨hta,.inl ⟨A,c,ys,rfl,⟨(OwnN.new wk (w.heap.size + 1) [x] (by simp) (by simp) hwk _ rfl).turned ht9 (fun k hk e => by cases hk;have e2 : wk.heap.size = E.Q:=e;omega),hlie,by omega,hta,ht9.blk (hx.alloc _) (fun e => by have e2 : w.heap.size = E.Q:=e;omega),ht9.blk (hb.alloc _) (fun e => by have e2 : b1 = E.Q:=e;omega),by omega,by have:=ht9.size;omega,t,n :: a.kids,s',k1.trans (bind_ok hr),hs',k3,?_,?_⟩⟩⟩
   ·have q1 : AllN w' (fun b => w.heap.size < b ∧ b ≠ b1 ∧ b ≠ wk.heap.size) [x] [n]:=((k5.kept (w':=wk) (Nat.le_refl _) (fun _ _ _ => rfl) (S':=fun b => w.heap.size < b ∧ b ≠ b1 ∧ b ≠ wk.heap.size) (fun b hb hs => ⟨hs.1,hs.2,by omega⟩)).alloc _).turned ht9 (fun b hs e => by have h1:=hs.1;have e2 : b = E.Q:=e;omega)
    have q2 : AllN w' (fun b => w.heap.size < b ∧ b ≠ b1 ∧ b ≠ wk.heap.size) ys a.kids:=hall.kept (Nat.le_refl _) (fun _ _ _ => rfl) (fun b _ hs => by have h1:=hs.1;rw [hz] at h1;exact ⟨by omega,by omega,by omega⟩)
    exact q1.app q2
   ·exact Nat.le_trans k6 (mo_list E g s a s' hr)
  ·exact ⟨(ht.alloc _).then ht9,.inr ⟨c,p,k1.trans (bind_no hr),hc,rfl⟩⟩
/-- list asked before the row of one is laid. -/
theorem call_listB {f : Nat} (ihX : ∀ g,g ≤ f → PCall g .expr 108) {w wk : World} {E : Env} {rr : Res} {b1 g : Nat} {K : Nd → List Nd → PS → Res} {tv uv : ByteArray} {x : NV} {lo : Nat} (hgf : g ≤ f) (ho : rr ≠ .out) (hQ : E.Q < w.heap.size) (hb1 : w.heap.size < b1) (ht : Turned w wk (fun b => b = E.Q)) (hx : Blk wk w.heap.size 24 #[.int .i64 0,.string ⟨#[]⟩,.int .i64 0,.slice none 0 0]) (hb : Blk wk b1 24 #[.int .i64 x.kind,.string x.text,.int .i64 x.num,.slice x.a x.len x.cap])
  (h : PT E rr wk (fun t _ ls s => (listE E g s).bind fun a s => K t (hdN ls :: a.kids) s) tv uv [x] (SB w b1) lo) :
  Calls Tryz.prog 91 #[.pointer (some ⟨E.Q,0,none⟩),.func (.func 108) #[.pointer (some ⟨E.Q,0,none⟩)] #[]] wk fun e w' => Turned w w' (fun b => b = E.Q) ∧ ((∃ A c ys,e = .returned (.slice A ys.length c) ∧ Blk w' b1 24 #[.int .i64 x.kind,.string x.text,.int .i64 x.num,.slice x.a x.len x.cap] ∧ CallF w E rr b1 w'.heap.size K tv x lo (w'.alloc (.cells #[.int .i64 x.kind,.string x.text,.int .i64 x.num,.slice x.a x.len x.cap] 24)) ys A) ∨ (∃ c p,rr = .no c p ∧ c ≠ 0 ∧ e = thrown c p)):=by
 obtain ⟨t,u,ls,s,k1,k2,k3,k4,k5,k6⟩:=h
 match ls,k5.1,k1,k5 with
 | [n],_,k1,k5 =>
  have hout : listE E g s ≠ .out:=fun hx => ho (k1.trans (bind_out hx))
  have hwk : w.heap.size < wk.heap.size:=Nat.lt_trans hb1 hb.lt
  have hbl:=hb.lt
  refine (plist_E (fun g' hg' => ihX g' (Nat.le_trans hg' hgf)) k2 hout).mono ?_
  rintro e w' ⟨ht9,⟨v,rfl,a,s',A,k,c,ys,hr,rfl,hs',hown,hall,hfew⟩ | ⟨c,p,hr,hc,rfl⟩⟩
  ·obtain ⟨rfl,hlie⟩:=hown.lie
   have hta : Turned w w' (fun b => b = E.Q):=ht.then ht9
   have hw9 : wk.heap.size ≤ w'.heap.size:=ht9.size
   have hb9:=ht9.blk hb (fun e => by have e2 : b1 = E.Q:=e;omega)
   have hz : (w'.alloc (.cells #[.int .i64 x.kind,.string x.text,.int .i64 x.num,.slice x.a x.len x.cap] 24)).heap.size = w'.heap.size + 1:=World.size_alloc _ _
   refine ⟨hta,.inl ⟨A,c,ys,rfl,hb9,⟨OwnN.new w' (w.heap.size + 1) [x] (by simp) (by simp) (by omega) _ rfl,(hown.alloc _).lie.2,by omega,hta.alloc _,(ht9.blk hx (fun e => by have e2 : w.heap.size = E.Q:=e;omega)).alloc _,hb9.alloc _,by omega,by omega,t,n :: a.kids,s',k1.trans (bind_ok hr),hs'.alloc _,k3,?_,?_⟩⟩⟩
   ·have q1 : AllN w' (fun b => w.heap.size < b ∧ b ≠ b1 ∧ b ≠ w'.heap.size) [x] [n]:=(k5.turned ht9 (fun b hs e => by have h1:=hs.1;have e2 : b = E.Q:=e;omega)).kept (Nat.le_refl _) (fun _ _ _ => rfl) (fun b hb hs => ⟨hs.1,hs.2,by omega⟩)
    have q2 : AllN w' (fun b => w.heap.size < b ∧ b ≠ b1 ∧ b ≠ w'.heap.size) ys a.kids:=hall.kept (Nat.le_refl _) (fun _ _ _ => rfl) (fun b hb hs => by have h1:=hs.1;exact ⟨by omega,by omega,by omega⟩)
    exact (q1.app q2).alloc _
   ·exact Nat.le_trans k6 (mo_list E g s a s' hr)
  ·exact ⟨ht.then ht9,.inr ⟨c,p,k1.trans (bind_no hr),hc,rfl⟩⟩

set_option maxRecDepth 100000 in
set_option maxHeartbeats 3200000 in
theorem pcall_any {f : Nat} (ihP : PCall f .primary 142) (ihX : ∀ g,g ≤ f → PCall g .expr 108) {E : Env} {s : PS} {w : World} (h : PAt w E s) (hout : run E.L E.e (f + 1) .call s ≠ .out) : Calls Tryz.prog 135 #[.pointer (some ⟨E.Q,0,none⟩)] w (PEnd E (run E.L E.e (f + 1) .call s) w):=by
 have HO0:=Lib.hid hout
 generalize hrr : run E.L E.e (f + 1) .call s = rr at *
 have hr : rr = (fun (_ _ : Nd) (_ : List Nd) s => (run E.L E.e f .primary s).bind fun n s => (fun (_ _ : Nd) (_ : List Nd) n s => run E.L E.e f (.callL n) s) nd0 nd0 [] n s) nd0 nd0 [] s:=by rw [← hrr];simp only [run]
 clear hrr hout
 have HQ:=Lib.hid h.old
 have NE : Hid (¬ w.heap.size = E.Q):=by have:=h.old;show ¬ _;omega
 have hfew:=h.few
 obtain ⟨o9,ho9⟩:=oZ
 have hb0:=bl w o9
 have HT:=Lib.hid (Turned.of_below (fun b => b = E.Q) hb0)
 have HX:=zB w
 have HZ:=zN w o9
 have HO:=Lib.hid (OwnN.nil (w.alloc o9) (w.heap.size + 1))
 subst ho9
 have HST : Hid (PT E rr (w.alloc (.cells #[.int .i64 0,.string ⟨#[]⟩,.int .i64 0,.slice none 0 0] 24)) (fun (_ _ : Nd) (_ : List Nd) s => (run E.L E.e f .primary s).bind fun n s => (fun (_ _ : Nd) (_ : List Nd) n s => run E.L E.e f (.callL n) s) nd0 nd0 [] n s) ByteArray.empty ByteArray.empty [] (SR w (.slice none 0 0)) 0):=PT.below (K:=(fun (_ _ : Nd) (_ : List Nd) s => (run E.L E.e f .primary s).bind fun n s => (fun (_ _ : Nd) (_ : List Nd) n s => run E.L E.e f (.callL n) s) nd0 nd0 [] n s)) ⟨nd0,nd0,[],s,hr,h,rfl,rfl,AllN.nil _ _,Nat.zero_le _⟩ hb0
 clear h hb0 hr
 go_enter Tryz.func135,Tryz.ntmps135
 go_wp2_with fail
 (try rw [← (show (w.alloc (.cells #[.int .i64 0,.string ⟨#[]⟩,.int .i64 0,.slice none 0 0] 24)).heap.size = _ from World.size_alloc _ _)])
 generalize (w.alloc (.cells #[.int .i64 0,.string ⟨#[]⟩,.int .i64 0,.slice none 0 0] 24)) = w1 at *
 refine (pt_call (sr_ne HQ.out) ihP HO0.out (fun b hb => ⟨Nat.lt_of_lt_of_le HZ.out hb,fun e => Nat.lt_irrefl _ (Nat.lt_of_lt_of_le (HO.out.lt _ e).2 hb)⟩) HST.out).mono ?_
 rintro e w2 ⟨ht9,⟨v9,rfl,x_n,rfl,hst9⟩ | ⟨c9,p9,hr9,hc9,rfl⟩⟩
 rotate_left
 ·exact ⟨rfl,HT.out.then ht9,.inr ⟨_,_,hr9,hc9,rfl⟩⟩
 replace HX:=bT HX ht9 NE
 replace HO:=Lib.hid (HO.out.turned ht9 (row_ne HO.out HQ.out))
 replace HZ:=zT HZ ht9
 replace HT:=tT HT ht9
 replace HST:=Lib.hid hst9
 clear ht9 hst9
 obtain ⟨t1,u1,ls1,n1,s1,k1,k2,-,-,-,k6,-⟩:=HST.out
 have HB:=Lib.hid (Blk.new w2 24 #[.int .i64 x_n.kind,.string x_n.text,.int .i64 x_n.num,.slice x_n.a x_n.len x_n.cap])
 obtain ⟨o9,ho9⟩:=oN x_n
 have HIN:=Lib.hid ((k6.weak (S':=SB w w2.heap.size) (fun b hb h => ⟨h.1,Nat.ne_of_lt hb⟩)).alloc o9)
 have HAT:=Lib.hid (k2.alloc o9)
 subst ho9
 have HK:=Lib.hid k1
 have HZB:=HZ
 have NB : Hid (¬ w2.heap.size = E.Q):=by have h1:=HQ.out;have h2:=HZ.out;show ¬ _;omega
 obtain ⟨o9,ho9⟩:=oN x_n
 replace HX:=bA HX o9
 replace HT:=tA HT o9
 replace HZ : Hid (w.heap.size < (w2.alloc o9).heap.size):=by show _ < _;rw [World.size_alloc];exact Nat.lt_succ_of_lt HZ.out
 subst ho9
 clear HO HST k1 k2 k6
 go_wp2_with fail
 generalize (w2.alloc (.cells #[.int .i64 x_n.kind,.string x_n.text,.int .i64 x_n.num,.slice x_n.a x_n.len x_n.cap] 24)) = wb at *
 generalize w2.heap.size = b1 at *
 go_loopg [4] E.L.length (fun gk _ wr => XInv1 w E rr b1 (fun g n s => run E.L E.e g (.callL n) s) f gk wr)
 case atStart => exact ⟨HT.out,HZ.out,HX.out,x_n,f,0,n1,s1,HB.out,Nat.le_refl _,by omega,HK.out,HAT.out,HIN.out⟩
 case round =>
  clear HT HZ HX HB HK HAT HIN
  obtain ⟨ht,hz,hx,x_m,g,i,n9,s9,hb,hgf,hgk,hk,hat,hin⟩:=hrel
  have HT:=Lib.hid ht
  have HZ:=Lib.hid hz
  have HX:=Lib.hid hx
  have HB:=Lib.hid hb
  have HGK:=Lib.hid hgk
  clear ht hz hx hb hgk
  cases g with
  | zero => exact absurd (hk.trans (by simp only [run])) HO0.out
  | succ g =>
   have HST : Hid (PT E rr wr (fun t u ls s => if seesP E.L ⟨#[46]⟩ s = true then (fun (_ _ : Nd) (ls : List Nd) s => callA2 E g (hdN ls) s) t u ls (stepP s) else (fun (_ _ : Nd) (ls : List Nd) s => Res.ok (hdN ls) s) t u ls s) ByteArray.empty ByteArray.empty [x_m] (SB w b1) s9.i):=⟨nd0,nd0,[n9],s9,hk.trans (callL_eq E g n9 s9),hat,rfl,rfl,AllN.one hin,Nat.le_refl _⟩
   have HLE:=Lib.hid hat.le
   clear hk hat hin
   go_wp2_with fail
   refine (pt_takes (A:=(fun (_ _ : Nd) (ls : List Nd) s => callA2 E g (hdN ls) s)) (B:=(fun (_ _ : Nd) (ls : List Nd) s => Res.ok (hdN ls) s)) (sb_ne HQ.out) ⟨#[46]⟩ HST.out).mono ?_
   rintro e w3 ⟨b9,rfl,ht9,hy9,hn9⟩
   replace HX:=bT HX ht9 NE
   replace HB:=bT HB ht9 NB
   replace HZ:=zT HZ ht9
   replace HT:=tT HT ht9
   clear ht9 HST
   cases b9
   ·have HST:=Lib.hid (hn9 rfl)
    clear hy9 hn9
    have HST2 : Hid (PT1 E rr w3 (fun _ _ _ n s => .ok n s) _ _ [] x_m (SB w b1) _):=Lib.hid (PT.uncons HST.out)
    clear HST
    obtain ⟨u0,u1,u2,u3,g0,g1,g2,g3,gl⟩:=HX.out.f4
    obtain ⟨y0,y1,y2,y3,e0,e1,e2,e3,el⟩:=HB.out.f4
    go_wp2_with fail
    clear u0 u1 u2 u3 g0 g1 g2 g3 gl y0 y1 y2 y3 e0 e1 e2 e3 el
    have HEND:=Lib.hid (pt_end (x:=x_m) HQ.out HT.out HX.out (fun b h => h.1) HST2.out rfl)
    refine open_post (fun W => Blk W w.heap.size 24 #[.int .i64 x_m.kind,.string x_m.text,.int .i64 x_m.num,.slice x_m.a x_m.len x_m.cap] ∧ PEnd E rr w (.returned (nvA x_m)) W) HEND.out ?_
    rintro W ⟨hb,hE⟩
    obtain ⟨v0,v1,v2,v3,-⟩:=hb.f4
    exact bodyPost_ret (v:=nvA x_m) (by simp [results,Tryz.results135,go_sem,nvA,v0,v1,v2,v3]) rfl hE
   ·have HST:=Lib.hid (hy9 rfl)
    clear hy9 hn9
    go_wp2_with fail
    refine (pt_name1 (K:=(fun (t _ : Nd) (ls : List Nd) s => (listE E g s).bind fun a s => (fun (t : Nd) (ls : List Nd) (s : PS) => run E.L E.e g (.callL (.mk 25 t.text 0 ls)) ⟨s.i,s.dep,s.many + 1⟩) t (hdN ls :: a.kids) s)) (sb_ne HQ.out) HST.out).mono ?_
    rintro e w4 ⟨ht9,⟨v9,rfl,t9,rfl,hst9⟩ | ⟨c9,p9,hr9,hc9,rfl⟩⟩
    rotate_left
    ·exact ⟨rfl,HT.out.then ht9,.inr ⟨_,_,hr9,hc9,rfl⟩⟩
    replace HX:=bT HX ht9 NE
    replace HB:=bT HB ht9 NB
    replace HZ:=zT HZ ht9
    replace HT:=tT HT ht9
    clear ht9 HST
    go_wp2_with fail
    replace HX : Hid (Blk w4.drew w.heap.size 24 #[.int .i64 0,.string ⟨#[]⟩,.int .i64 0,.slice none 0 0]):=HX.out.drewN 1
    replace HB : Hid (Blk w4.drew b1 24 #[.int .i64 x_m.kind,.string x_m.text,.int .i64 x_m.num,.slice x_m.a x_m.len x_m.cap]):=HB.out.drewN 1
    replace HZ : Hid (w.heap.size < w4.drew.heap.size):=HZ.out
    replace HT : Hid (Turned w w4.drew (fun b => b = E.Q)):=HT.out.drewN 1
    have HST2 : Hid (PT E rr w4.drew (fun (t _ : Nd) (ls : List Nd) s => (listE E g s).bind fun a s => (fun (t : Nd) (ls : List Nd) (s : PS) => run E.L E.e g (.callL (.mk 25 t.text 0 ls)) ⟨s.i,s.dep,s.many + 1⟩) t (hdN ls :: a.kids) s) _ _ [x_m] (SB w b1) _):=Lib.hid (hst9.below (belowN w4.heap.size w4 1))
    clear hst9
    have HLA : Hid (Calls Tryz.prog 91 #[.pointer (some ⟨E.Q,0,none⟩),.func (.func 108) #[.pointer (some ⟨E.Q,0,none⟩)] #[]] (w4.alloc (.cells #[.int .i64 x_m.kind,.string x_m.text,.int .i64 x_m.num,.slice x_m.a x_m.len x_m.cap] 24)).drew (fun e w' => Turned w w' (fun b => b = E.Q) ∧ ((∃ A c ys,e = .returned (.slice A ys.length c) ∧ CallF w E rr b1 w4.heap.size (fun (t : Nd) (ls : List Nd) (s : PS) => run E.L E.e g (.callL (.mk 25 t.text 0 ls)) ⟨s.i,s.dep,s.many + 1⟩) t9 x_m _ w' ys A) ∨ (∃ c p,rr = .no c p ∧ c ≠ 0 ∧ e = thrown c p)))):=Lib.hid (call_listA (K:=(fun (t : Nd) (ls : List Nd) (s : PS) => run E.L E.e g (.callL (.mk 25 t.text 0 ls)) ⟨s.i,s.dep,s.many + 1⟩)) ihX (Nat.le_of_succ_le hgf) HO0.out HQ.out HZB.out HT.out HX.out HB.out HST2.out)
    have HLB:=Lib.hid (call_listB (K:=(fun (t : Nd) (ls : List Nd) (s : PS) => run E.L E.e g (.callL (.mk 25 t.text 0 ls)) ⟨s.i,s.dep,s.many + 1⟩)) ihX (Nat.le_of_succ_le hgf) HO0.out HQ.out HZB.out HT.out HX.out HB.out HST2.out)
    clear HST2
    have hmf : ∀ (fn : Fn) (first cap : Array Value) (w : World),(Instr.makeFunc fn first cap).run Tryz.prog w = .ok (.func fn first cap) w:=fun _ _ _ _ => rfl
    have hone : [x_m].length ≤ 1000000:=by simp
    obtain ⟨y0,y1,y2,y3,e0,e1,e2,e3,el⟩:=HB.out.f4
    go_region_law (first
      | (go_simp;go_at_call 91;with_reducible refine HLA.out.mono ?_;rintro e w9 ⟨ht9,⟨A2,c2,ys,rfl,hf⟩ | ⟨c9,p9,hr9,hc9,rfl⟩⟩;rotate_left;exact throw_out rfl (throw_end ht9 hr9 hc9);have HF:=Lib.hid hf;clear hf ht9;obtain ⟨y0,y1,y2,y3,e0,e1,e2,e3,el⟩:=HF.out.hb.f4)
      | (go_simp;go_at_call 91;with_reducible refine HLB.out.mono ?_;rintro e w9 ⟨ht9,⟨A2,c2,ys,rfl,hb9,hf⟩ | ⟨c9,p9,hr9,hc9,rfl⟩⟩;rotate_left;exact throw_out rfl (throw_end ht9 hr9 hc9);have HF:=Lib.hid hf;clear hf ht9;obtain ⟨y0,y1,y2,y3,e0,e1,e2,e3,el⟩:=hb9.f4;clear hb9)
      | (refine step_joinNd rfl _ _ rfl (w.heap.size + 1) _ [x_m] rfl HF.out.own A2 ys c2 rfl HF.out.lie hone HF.out.few HF.out.big ?_;intro A3 n3 c3 w11 hown hgr hpl;have HN:=Lib.hid (HF.out.next HQ.out HZB.out hgr hpl);have HW:=Lib.hid hown;clear hown hgr hpl;have HNODE:=Lib.hid (pt_node (K:=(fun (t _ : Nd) (ls : List Nd) s => run E.L E.e g (.callL (.mk 25 ((fun (t _ : Nd) => t.text) t nd0) 0 ls)) s)) (sr2_ne HQ.out) 25 t9 A3 n3 c3 HN.out.1))
      | (go_simp;go_at_call 66;with_reducible refine HNODE.out.mono ?_;rintro e w12 ⟨rfl,ht10,hst10⟩;have HG:=Lib.hid (And.intro ht10 hst10);clear ht10 hst10;obtain ⟨y0,y1,y2,y3,e0,e1,e2,e3,el⟩:=(HG.out.1.blk HN.out.2.2.2.1 NB.out).f4))
    all_goals
     clear y0 y1 y2 y3 e0 e1 e2 e3 el HNODE hmf hone
     have HP:=Lib.hid (pt_box (K:=fun n s => run E.L E.e g (.callL n) s) (kd:=25) (tx:=t9) (fun (t _ : Nd) => t.text) (fun _ _ h _ => h.symm) HQ.out (HN.out.2.1.then HG.out.1) (HW.out.turned HG.out.1 (row_ne HW.out HQ.out)) (HG.out.1.blk HN.out.2.2.2.1 NB.out) HZB.out HN.out.2.2.2.2 HG.out.2 rfl)
     go_wp2_with fail
     obtain ⟨f1,f2,f3,f4,m,s2,f5,f6,f7,f8⟩:=HP.out
     have hz9 : w.heap.size < _:=Nat.lt_of_lt_of_le (Nat.lt_trans HZB.out f3.lt) (Nat.le_refl _)
     have hx9:=f4 _ _ _ (Nat.ne_of_lt HZB.out) (HG.out.1.blk HN.out.2.2.1 NE.out)
     have hgk:=HGK.out
     have hl9:=f6.le
     have hl8:=HLE.out
     go_roundg (gk - 1)
     case measure => omega
     case rel => exact ⟨f1,hz9,hx9,_,g,0,m,s2,f3,Nat.le_of_succ_le hgf,by omega,f5,f6,f7⟩
end Go.Proofs.YtbpldfmmlgkfnaaGreatDoor
