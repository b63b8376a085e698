/- The program's parser of tokens: what is thrown is caught. The program's parser of a text. Conditions: as each theorem says. -/
import Derived.Test.YtbpldfmmlgkfnaaGreatDoorEMemZ
import Derived.Test.YtbpldfmmlgkfnaaGreatDoorEPpP
import Derived.Test.YtbpldfmmlgkfnaaGreatDoorERpR
import Derived.Recover
import Derived.BigRegion
namespace Go.Proofs.YtbpldfmmlgkfnaaGreatDoor
open Go.RowKit
set_option linter.unusedVariables false

theorem assert_wrong (c : Int) (p : Nat) (w : World) : (Instr.typeAssert (wrongV c p) 20 88 true).run Tryz.prog w = .ok (.tuple #[.agg #[.int .i64 c,.int .i64 (p : Nat)],.bool true]) w:=by
 unfold Instr.typeAssert
 simp [run_underlying Tryz.underlying88]
set_option maxRecDepth 100000 in
theorem catch_idle (p q : Addr) (w : World) :
  CallsD Tryz.prog 29 #[.pointer (some p),.pointer (some q)] .returning w fun e u' w' => e = .returned (.tuple #[]) ∧ u' = .returning ∧ w' = w:=by
 refine callsD_of_wpS Tryz.func29 rfl fun c₀ cs hu => ?_
 apply wpS_seq
 apply wpS_region
 simp [wpOpsS,go_sem,recoverD,hu,Tryz.ntmps29,Exit.thenS]
 refine wpS_of_wp ?_
 change Code.wp Tryz.prog _ _ { tmps:=#[.pointer (some p),.pointer (some q),undef,undef,undef,.nilIface,undef,undef,undef,undef,undef,undef,undef,undef],defers:=[] } w
 go_wp2
 cases c₀
 simp_all [bodyPostS,results,Tryz.results29]
set_option maxRecDepth 100000 in
set_option maxHeartbeats 1600000 in
theorem catch_panicking (R0 R1 : Nat) (c : Int) (p : Nat) (u0 u1 u2 u3 u4 u5 : Value) (older : List PanicEntry) (w : World) (h0 : Blk w R0 24 #[u0,u1,u2,u3]) (h1 : Blk w R1 27 #[u4,u5]) (n1 : R0 ≠ R1) :
  CallsD Tryz.prog 29 #[.pointer (some ⟨R0,0,none⟩),.pointer (some ⟨R1,0,none⟩)] (.panicking ({ v:=wrongV c p,recovered:=false } :: older)) w fun e u' w' =>
   e = .returned (.tuple #[]) ∧ u' = .panicking ({ v:=wrongV c p,recovered:=true } :: older) ∧ Blk w' R0 24 #[.int .i64 0,.string ⟨#[]⟩,.int .i64 0,.slice none 0 0] ∧ Blk w' R1 27 #[.int .i64 c,.int .i64 (p : Nat)] ∧ Turned w w' (fun k => k = R0 ∨ k = R1):=by
 obtain ⟨x0,x1,x2,x3,f0,f1,f2,f3,fl⟩:=h0.f4
 obtain ⟨z1,z2,z3,z4,z5⟩:=h1.f2
 have hta:=assert_wrong c p
 have H0:=Lib.hid h0;have H1:=Lib.hid h1
 clear h0 h1
 refine callsD_of_wpS Tryz.func29 rfl fun c₀ cs hu => ?_
 apply wpS_seq
 apply wpS_region
 simp [wpOpsS,go_sem,recoverD,hu,Tryz.ntmps29,Exit.thenS]
 refine wpS_of_wp ?_
 change Code.wp Tryz.prog _ _ { tmps:=#[.pointer (some ⟨R0,0,none⟩),.pointer (some ⟨R1,0,none⟩),undef,undef,undef,wrongV c p,undef,undef,undef,undef,undef,undef,undef,undef],defers:=[] } w
 go_wp2
 have hx9 : Blk (w.alloc (.cells #[.int .i64 c,.int .i64 (p : Nat)] 88)) w.heap.size 88 #[.int .i64 c,.int .i64 (p : Nat)]:=Blk.new _ _ _
 obtain ⟨o9,ho9⟩ : ∃ o : Obj,o = (.cells #[.int .i64 c,.int .i64 (p : Nat)] 88):=⟨_,rfl⟩
 have HB0:=Lib.hid (H0.out.alloc o9);have HB1:=Lib.hid (H1.out.alloc o9)
 have HT:=Lib.hid ((Turned.refl w (fun k => k = R0 ∨ k = R1)).alloc o9)
 subst ho9
 have hX0 : R0 ≠ w.heap.size:=by omega
 have hX1 : R1 ≠ w.heap.size:=by omega
 clear x0 x1 x2 x3 f0 f1 f2 f3 fl z1 z2 z3 z4 z5
 generalize (w.alloc (.cells #[.int .i64 c,.int .i64 (p : Nat)] 88)) = w5 at *
 generalize w.heap.size = X at *
 obtain ⟨v1,v2,v3,v4,v5⟩:=hx9.f2
 obtain ⟨x0,x1,x2,x3,f0,f1,f2,f3,fl⟩:=HB0.out.f4
 obtain ⟨z1,z2,z3,z4,z5⟩:=HB1.out.f2
 clear hta hx9
 go_region
 all_goals (try go_wp2)
 have a1:=HB0.out.set_ 0 (.int .i64 0)
 have a2:=a1.set_ 1 (.string ⟨#[]⟩)
 have a3:=a2.set_ 2 (.int .i64 0)
 have a4:=a3.set_ 3 (.slice none 0 0)
 have b1:=HB1.out.far (p:=⟨R0,0,none⟩) (fun e => n1 e.symm) (.int .i64 0)
 have b2:=b1.far (p:=⟨R0,1,none⟩) (fun e => n1 e.symm) (.string ⟨#[]⟩)
 have b3:=b2.far (p:=⟨R0,2,none⟩) (fun e => n1 e.symm) (.int .i64 0)
 have b4:=b3.far (p:=⟨R0,3,none⟩) (fun e => n1 e.symm) (.slice none 0 0)
 have b5:=b4.set_ 0 (.int .i64 c)
 have b6:=b5.set_ 1 (.int .i64 (p : Nat))
 have a5:=a4.far (p:=⟨R1,0,none⟩) n1 (.int .i64 c)
 have a6:=a5.far (p:=⟨R1,1,none⟩) n1 (.int .i64 (p : Nat))
 have qt:=(((((HT.out.setCell (p:=⟨R0,0,none⟩) (.inl (.inl rfl)) (.int .i64 0)).setCell (p:=⟨R0,1,none⟩) (.inl (.inl rfl)) (.string ⟨#[]⟩)).setCell (p:=⟨R0,2,none⟩) (.inl (.inl rfl)) (.int .i64 0)).setCell (p:=⟨R0,3,none⟩) (.inl (.inl rfl)) (.slice none 0 0)).setCell (p:=⟨R1,0,none⟩) (.inl (.inr rfl)) (.int .i64 c)).setCell (p:=⟨R1,1,none⟩) (.inl (.inr rfl)) (.int .i64 (p : Nat))
 exact ⟨rfl,_,rfl,_,by simp [results,Tryz.results29,go_sem],rfl,rfl,a6.drewN 1,b6.drewN 1,qt.drewN 1⟩
abbrev doorP (N : Nat) : List Deferred:=[{ target:=.fn (.func 29) #[.pointer (some ⟨N,0,none⟩),.pointer (some ⟨N + 1,0,none⟩)],args:=#[] }]
set_option maxRecDepth 100000 in
theorem door_panic {w W : World} {N : Nat} {r : Res} {c : Int} {p : Nat} {u0 u1 u2 u3 u4 u5 : Value} {tmps : Array Value} (hN : w.heap.size = N) (h0 : Blk W N 24 #[u0,u1,u2,u3]) (h1 : Blk W (N + 1) 27 #[u4,u5]) (hb : Below N w W)
  (hr : r = .no c p) (hc : c ≠ 0) (t4 : tmps[4]? = some (.pointer (some ⟨N,0,none⟩))) (t5 : tmps[5]? = some (.pointer (some ⟨N + 1,0,none⟩))) :
  Leaves Tryz.prog Tryz.f15 tmps (ParseEnd r w) (doorP N) (.panicking [{ v:=wrongV c p,recovered:=false }]) W:=by
 refine leaves_cons (f:=29) (args:=#[.pointer (some ⟨N,0,none⟩),.pointer (some ⟨N + 1,0,none⟩)]) (by simp) (by simp [go_sem]) ?_
 refine (catch_panicking N (N + 1) c p u0 u1 u2 u3 u4 u5 [] W h0 h1 (by omega)).mono ?_
 rintro e u' w' ⟨rfl,rfl,q0,q1,qt⟩
 obtain ⟨x0,x1,x2,x3,-⟩:=q0.f4
 obtain ⟨y1,y2,-⟩:=q1.f2
 have hr2 : (results Tryz.f15 tmps).run Tryz.prog w' = .ok (.tuple #[nvA ⟨0,⟨#[]⟩,0,none,0,0⟩,.agg #[.int .i64 c,.int .i64 (p : Nat)]]) w':=by simp [results,Tryz.results15,go_sem,nvA,t4,t5,x0,x1,x2,x3,y1,y2]
 have hbl : Below w.heap.size w w':=by
  rw [hN]
  exact hb.trans (qt.below (Nat.le_of_lt h0.lt) (fun k hk e => by rcases e with e | e <;> omega))
 exact ⟨_,hr2,hbl,.inr ⟨c,p,hr,hc,rfl⟩⟩
set_option maxRecDepth 100000 in
theorem door_ret {w W : World} {N : Nat} {r : Res} {c : Int} {p : Nat} {x : NV} {tmps : Array Value} (h0 : Blk W N 24 #[.int .i64 x.kind,.string x.text,.int .i64 x.num,.slice x.a x.len x.cap]) (h1 : Blk W (N + 1) 27 #[.int .i64 c,.int .i64 (p : Nat)])
  (hE : ParseEnd r w (.returned (.tuple #[nvA x,.agg #[.int .i64 c,.int .i64 (p : Nat)]])) W) (t4 : tmps[4]? = some (.pointer (some ⟨N,0,none⟩))) (t5 : tmps[5]? = some (.pointer (some ⟨N + 1,0,none⟩))) :
  Leaves Tryz.prog Tryz.f15 tmps (ParseEnd r w) (doorP N) .returning W:=by
 refine leaves_cons (f:=29) (args:=#[.pointer (some ⟨N,0,none⟩),.pointer (some ⟨N + 1,0,none⟩)]) (by simp) (by simp [go_sem]) ?_
 refine (catch_idle _ _ W).mono ?_
 rintro e u' w' ⟨rfl,rfl,rfl⟩
 obtain ⟨x0,x1,x2,x3,-⟩:=h0.f4
 obtain ⟨y1,y2,-⟩:=h1.f2
 have hr2 : (results Tryz.f15 tmps).run Tryz.prog w' = .ok (.tuple #[nvA x,.agg #[.int .i64 c,.int .i64 (p : Nat)]]) w':=by simp [results,Tryz.results15,go_sem,nvA,t4,t5,x0,x1,x2,x3,y1,y2]
 exact ⟨_,hr2,hE⟩
theorem node_put {w W W1 : World} {u0 u1 u2 u3 u4 u5 : Value} {x : NV} {n : Nd} {S : Nat → Prop} (hb : Below w.heap.size w W) (h1 : Blk W w.heap.size 24 #[u0,u1,u2,u3]) (h2 : Blk W (w.heap.size + 1) 27 #[u4,u5]) (hx : IsN W S x n) (hS : ∀ b,S b → w.heap.size + 1 < b) (hW : W1 = ((((W.setCell ⟨w.heap.size,0,none⟩ (.int .i64 x.kind)).setCell ⟨w.heap.size,1,none⟩ (.string x.text)).setCell ⟨w.heap.size,2,none⟩ (.int .i64 x.num)).setCell ⟨w.heap.size,3,none⟩ (.slice x.a x.len x.cap))) :
  Below w.heap.size w W1 ∧ Blk W1 w.heap.size 24 #[.int .i64 x.kind,.string x.text,.int .i64 x.num,.slice x.a x.len x.cap] ∧ Blk W1 (w.heap.size + 1) 27 #[u4,u5] ∧ IsN W1 S x n:=by
 have n1 : w.heap.size + 1 ≠ w.heap.size:=by omega
 subst hW
 refine ⟨?_,?_,?_,hx.kept (by simp [World.setCell]) (fun b _ hb => ?_) (fun b _ hb => hb)⟩
 ·exact (((hb.setCell (p:=⟨w.heap.size,0,none⟩) (Nat.le_refl _) _).setCell (p:=⟨w.heap.size,1,none⟩) (Nat.le_refl _) _).setCell (p:=⟨w.heap.size,2,none⟩) (Nat.le_refl _) _).setCell (p:=⟨w.heap.size,3,none⟩) (Nat.le_refl _) _
 ·have a1:=h1.set_ 0 (.int .i64 x.kind)
  have a2:=a1.set_ 1 (.string x.text)
  have a3:=a2.set_ 2 (.int .i64 x.num)
  exact a3.set_ 3 (.slice x.a x.len x.cap)
 ·have a1:=h2.far (p:=⟨w.heap.size,0,none⟩) n1 (.int .i64 x.kind)
  have a2:=a1.far (p:=⟨w.heap.size,1,none⟩) n1 (.string x.text)
  have a3:=a2.far (p:=⟨w.heap.size,2,none⟩) n1 (.int .i64 x.num)
  exact a3.far (p:=⟨w.heap.size,3,none⟩) n1 (.slice x.a x.len x.cap)
 ·have hbn : b ≠ w.heap.size:=by have:=hS b hb;omega
  have k1 : ∀ (W : World) (o i : Nat) (v : Value),b ≠ o → (W.setCell ⟨o,i,none⟩ v).heap[b]? = W.heap[b]?:=fun W o i v h => Below.heap_setCell _ ⟨o,i,none⟩ _ _ h
  rw [k1 _ _ _ _ hbn,k1 _ _ _ _ hbn,k1 _ _ _ _ hbn,k1 _ _ _ _ hbn]
theorem blk_drew {W : World} {g : Nat} {t : TypeId} {cs : Array Value} (h : Blk W g t cs) : Blk W.drew g t cs:=h.drewN 1
theorem parseEnd_drew {w W : World} {r : Res} {e : Ending} (h : ParseEnd r w e W) : ParseEnd r w e W.drew:=by
 obtain ⟨hb,hq⟩:=h
 refine ⟨hb.drew,?_⟩
 rcases hq with ⟨n,s,x,e1,e2,e3⟩ | hq
 ·exact .inl ⟨n,s,x,e1,e2,e3.kept (Nat.le_refl _) (fun _ _ _ => rfl) (fun _ _ h => h)⟩
 ·exact .inr hq
theorem progX_many {E : Env} {f : Nat} {n : Nd} {s : PS} (h : progX E f ⟨0,0,0⟩ = .ok n s) : s.many ≤ s.i:=by
 have hm : Mp 0 (progX E f ⟨0,0,0⟩):=by
  unfold progX progZ
  refine mp_bind (lo:=0) (run_many E.L E.e f (.clsL []) ⟨0,0,0⟩) fun l s1 h1 => ?_
  refine mp_bind (lo:=pot s1 + 1) mp_want fun n s2 h2 => ?_
  refine mp_bind (lo:=pot s2) (run_many E.L E.e f .block s2) fun b s3 h3 => ?_
  refine mp_if mp_no (mp_ok ?_)
  rw [pot_node]
  omega
 have:=hm n s h
 unfold pot at this
 omega
set_option maxRecDepth 100000 in
set_option maxHeartbeats 3200000 in
theorem parse_any (hprog : ∀ (f : Nat) (E : Env) (s : PS) (w : World),PAt w E s → progX E f s ≠ .out → Calls Tryz.prog 30 #[.pointer (some ⟨E.Q,0,none⟩)] w (PEnd E (progX E f s) w)) (A : Option Addr) (c e : Nat) (L : List Tok) (w : World) (ht : Toks w A L) (hf : L.length ≤ 4000) (hc : L.length ≤ c) (hok : ∀ t ∈ L,OkT t.kind t.text) :
  Calls Tryz.prog 15 #[.slice A L.length c,.int .i64 (e : Nat)] w (ParseEnd (parseP L e (fuelP L)) w):=by
 obtain ⟨w3,hw3⟩ : ∃ w3,w3 = ((w.alloc (.cells #[.int .i64 0,.string ⟨#[]⟩,.int .i64 0,.slice none 0 0] 24)).alloc (.cells #[.int .i64 0,.int .i64 0] 27)).alloc (.cells #[.slice A L.length c,.int .i64 (e : Nat),.int .i64 0,.int .i64 0] pT):=⟨_,rfl⟩
 have hb3 : Below w.heap.size w w3:=by
  rw [hw3]
  exact (((Below.refl _ _).alloc (Nat.le_refl _) _).alloc (by rw [World.size_alloc];exact Nat.le_succ _) _).alloc (by rw [World.size_alloc,World.size_alloc];omega) _
 have hn3 : Blk w3 w.heap.size 24 #[.int .i64 0,.string ⟨#[]⟩,.int .i64 0,.slice none 0 0]:=by
  rw [hw3];exact ((Blk.new w _ _).alloc _).alloc _
 have hf3 : Blk w3 (w.heap.size + 1) 27 #[.int .i64 0,.int .i64 0]:=by
  obtain ⟨o9,ho9⟩:=oZ
  have h:=(Blk.new (w.alloc o9) 27 #[.int .i64 0,.int .i64 0]).alloc (.cells #[.slice A L.length c,.int .i64 (e : Nat),.int .i64 0,.int .i64 0] pT)
  subst ho9
  rw [World.size_alloc] at h
  rw [hw3];exact h
 have hp3 : Blk w3 (w.heap.size + 1 + 1) pT #[.slice A L.length c,.int .i64 (e : Nat),.int .i64 0,.int .i64 0]:=by
  obtain ⟨o9,ho9⟩:=oZ
  have h:=Blk.new ((w.alloc o9).alloc (.cells #[.int .i64 0,.int .i64 0] 27)) pT #[.slice A L.length c,.int .i64 (e : Nat),.int .i64 0,.int .i64 0]
  subst ho9
  rw [World.size_alloc,World.size_alloc] at h
  rw [hw3];exact h
 have hz3 : w3.heap.size = w.heap.size + 3:=by rw [hw3,World.size_alloc,World.size_alloc,World.size_alloc]
 have h0 : wrap64 ((0 : Nat) : Int) = 0:=by simp only [wrap64];omega
 have hbk : Blk w3 (w.heap.size + 1 + 1) pT #[.slice A (L.length - 0) c,.int .i64 (e : Nat),.int .i64 0,.int .i64 (wrap64 ((0 : Nat) : Int))]:=by
  rw [h0];exact hp3
 have hg : PAt w3 ⟨w.heap.size + 1 + 1,A,c,L,e⟩ ⟨0,0,0⟩:=⟨Nat.zero_le _,by simp,by decide,hf,hok,A,c,ht.below hb3,hc,fun hl a ha => by
  obtain ⟨b,o,e1,hb,-⟩:=ht (show 0 < L.length from hl)
  rw [ha] at e1;cases e1;show b < w.heap.size + 1 + 1;omega,hbk⟩
 have hpp:=parse_progX L e (fuelP L) (E:=⟨w.heap.size + 1 + 1,A,c,L,e⟩) rfl rfl
 have hpo:=parse_out L e
 rw [hpp] at hpo ⊢
 have hno : progX ⟨w.heap.size + 1 + 1,A,c,L,e⟩ (fuelP L) ⟨0,0,0⟩ ≠ .out:=fun h => hpo (bind_out h)
 have hmany:=fun n s h => progX_many (E:=⟨w.heap.size + 1 + 1,A,c,L,e⟩) (f:=fuelP L) (n:=n) (s:=s) h
 have HC:=Lib.hid (hprog (fuelP L) _ _ _ hg hno)
 have HM:=Lib.hid hmany
 clear hpp hpo hno hmany hg h0 hbk hprog
 generalize hrr : progX ⟨w.heap.size + 1 + 1,A,c,L,e⟩ (fuelP L) ⟨0,0,0⟩ = rr at *
 clear hrr
 have HB:=Lib.hid hb3;have HNB:=Lib.hid hn3;have HF:=Lib.hid hf3;have HZ:=Lib.hid hz3
 have HW3:=Lib.hid hw3
 clear hb3 hn3 hf3 hp3 hz3 hw3 ht hc hok
 have hmf : ∀ (fn : Fn) (first cap : Array Value) (w : World),(Instr.makeFunc fn first cap).run Tryz.prog w = .ok (.func fn first cap) w:=fun _ _ _ _ => rfl
 go_enter_defers Tryz.func15,Tryz.ntmps15
 go_wp2_with fail
 clear hmf
 rw [← HW3.out]
 generalize hN : w.heap.size = N at *
 have HN:=Lib.hid hN
 refine HC.out.mono ?_
 rintro e9 w4 ⟨ht9,⟨v9,rfl,n,s,x,hr9,rfl,hs9,hi9⟩ | ⟨c9,p9,hr9,hc9,rfl⟩⟩
 rotate_left
 ·have hb4 : Below N w w4:=HB.out.trans (ht9.below (by have:=HZ.out;omega) (fun k hk e => by have e2 : k = N + 1 + 1:=e;omega))
  exact door_panic HN.out (ht9.blk HNB.out (fun e => by have e2 : N = N + 1 + 1:=e;omega)) (ht9.blk HF.out (fun e => by have e2 : N + 1 = N + 1 + 1:=e;omega)) hb4 (bind_no hr9) hc9 rfl rfl
 ·subst hN
  have hnq : ¬ w.heap.size = w.heap.size + 1 + 1:=by omega
  have hfq : ¬ w.heap.size + 1 = w.heap.size + 1 + 1:=by omega
  have hb4 : Below w.heap.size w w4:=HB.out.trans (ht9.below (by have:=HZ.out;omega) (fun k hk e => by have e2 : k = w.heap.size + 1 + 1:=e;omega))
  have hn4:=ht9.blk HNB.out hnq
  have hf4:=ht9.blk HF.out hfq
  have hle:=hs9.le
  have hmi:=HM.out n s hr9
  have hle2 : s.i ≤ L.length:=hle
  have hmw : wrap64 ((s.many : Nat) : Int) = (s.many : Int):=by simp only [wrap64];omega
  obtain ⟨Aq,cq,-,-,-,hbq⟩:=hs9.lies
  rw [hmw] at hbq
  obtain ⟨u0,u1,u2,u3,g0,g1,g2,g3,gl⟩:=hn4.f4
  obtain ⟨q0,q1,q2,q3,ql⟩:=hf4.f2
  obtain ⟨z0,z1,z2,z3,z4,z5,z6,z7,zl⟩:=hbq.f4
  have HB4:=Lib.hid hb4;have HN4:=Lib.hid hn4;have HF4:=Lib.hid hf4;have HI:=Lib.hid hi9;have HR:=Lib.hid hr9;have HBQ:=Lib.hid hbq
  clear hb4 hn4 hf4 hi9 hr9 hbq hs9 ht9 hle hmi hle2 hmw hnq hfq
  by_cases h6 : 600 < s.many
  ·have h62 : (600 : Int) < (s.many : Int):=by omega
   go_wp2_with fail
   clear u0 u1 u2 u3 g0 g1 g2 g3 gl q0 q1 q2 q3 ql z0 z1 z2 z3 z4 z5 z6 z7 zl
   obtain ⟨p1,p2,p3,p4⟩:=node_put HB4.out HN4.out HF4.out HI.out (fun b hb => by have h : w3.heap.size ≤ b:=hb;have:=HZ.out;omega) rfl
   have hend : (rr.bind fun n s => if 600 < s.many then Res.no 1 0 else Res.ok n s) = .no 1 0:=(bind_ok HR.out).trans (if_pos h6)
   obtain ⟨k1,k2,k3⟩:=tok_bad p1 p2 p3 hend (by decide) rfl
   exact door_ret (x:=⟨0,⟨#[]⟩,0,none,0,0⟩) k1 k2 k3 rfl rfl
  ·have h62 : decide ((600 : Int) < (s.many : Int)) = false:=by simp;omega
   go_wp2_with fail
   go_region
   clear u0 u1 u2 u3 g0 g1 g2 g3 gl q0 q1 q2 q3 ql z0 z1 z2 z3 z4 z5 z6 z7 zl
   go_wp2_with fail
   obtain ⟨p1,p2,p3,p4⟩:=node_put HB4.out HN4.out HF4.out HI.out (fun b hb => by have h : w3.heap.size ≤ b:=hb;have:=HZ.out;omega) rfl
   have hend : (rr.bind fun n s => if 600 < s.many then Res.no 1 0 else Res.ok n s) = .ok n s:=(bind_ok HR.out).trans (if_neg h6)
   obtain ⟨k1,k2,k3⟩:=tok_good p1 p2 p3 hend p4 (fun b hb => by have h : w3.heap.size ≤ b:=hb;have:=HZ.out;omega) rfl
   exact door_ret (p:=0) (blk_drew k1) (blk_drew k2) (parseEnd_drew k3) rfl rfl
end Go.Proofs.YtbpldfmmlgkfnaaGreatDoor

namespace Go.Proofs.YtbpldfmmlgkfnaaGreatDoor
open Go.RowKit
set_option linter.unusedVariables false
set_option maxRecDepth 100000 in
set_option maxHeartbeats 3200000 in
theorem pparse_any (hprog : ∀ (f : Nat) (E : Env) (s : PS) (w : World),PAt w E s → progX E f s ≠ .out → Calls Tryz.prog 30 #[.pointer (some ⟨E.Q,0,none⟩)] w (PEnd E (progX E f s) w)) (s : ByteArray) (hs : s.size ≤ 9223372036854775807) (w : World) (hv : LV w) : Calls Tryz.prog 6 #[.string s] w (ParseEnd (parseT s) w):=by
 have hw3 : ∃ w3,w3 = ((w.alloc (.cells #[.int .i64 0,.string ⟨#[]⟩,.int .i64 0,.slice none 0 0] 24)).alloc (.cells #[.int .i64 0,.int .i64 0] 27)):=⟨_,rfl⟩
 obtain ⟨w3,hw3⟩:=hw3
 have hb3 : Below w.heap.size w w3:=by
  rw [hw3]
  exact ((Below.refl _ _).alloc (Nat.le_refl _) _).alloc (by rw [World.size_alloc];exact Nat.le_succ _) _
 have hn3 : Blk w3 w.heap.size 24 #[.int .i64 0,.string ⟨#[]⟩,.int .i64 0,.slice none 0 0]:=by
  rw [hw3];exact (Blk.new w _ _).alloc _
 have hf3 : Blk w3 (w.heap.size + 1) 27 #[.int .i64 0,.int .i64 0]:=by
  obtain ⟨o9,ho9⟩:=oZ
  have h:=Blk.new (w.alloc o9) 27 #[.int .i64 0,.int .i64 0]
  subst ho9
  rw [World.size_alloc] at h
  rw [hw3];exact h
 have hz3 : w3.heap.size = w.heap.size + 2:=by rw [hw3,World.size_alloc,World.size_alloc]
 have HC:=Lib.hid (scan_cap s hs w3 (hv.below hb3))
 have HPROG:=Lib.hid hprog
 clear hprog hv
 unfold ScanCap at HC
 have HFEW:=Lib.hid (scan_few s)
 have HOK:=Lib.hid (scan_ok s)
 have HP : Hid (parseT s = if (scanF s).2.1 = 0 then parseP (scanF s).1 s.size (fuelP (scanF s).1) else .no (scanF s).2.1 (scanF s).2.2):=rfl
 generalize parseT s = rr at *
 generalize scanF s = sc at *
 obtain ⟨L,f,k⟩:=sc
 dsimp only at HC HFEW HOK HP
 have HB:=Lib.hid hb3;have HN:=Lib.hid hn3;have HF:=Lib.hid hf3;have HZ:=Lib.hid hz3
 have HW3:=Lib.hid hw3
 clear hb3 hn3 hf3 hz3 hw3
 go_enter Tryz.func6,Tryz.ntmps6
 go_wp2_with fail
 rw [← HW3.out]
 refine HC.out.mono ?_
 rintro e9 w4 ⟨hb4,C,c,rfl,htk,hcap⟩
 have HN4:=Lib.hid ((HN.out.below hb4 HN.out.lt).alloc (.cells #[.int .i64 f,.int .i64 (k : Nat)] 27))
 have HF4:=Lib.hid ((HF.out.below hb4 HF.out.lt).alloc (.cells #[.int .i64 f,.int .i64 (k : Nat)] 27))
 have HQ4:=Lib.hid (Blk.new w4 27 #[.int .i64 f,.int .i64 (k : Nat)])
 have hsz:=hb4.size
 have hz3:=HZ.out
 have HBL : Hid (Below w.heap.size w (w4.alloc (.cells #[.int .i64 f,.int .i64 (k : Nat)] 27))):=(HB.out.trans (hb4.mono (by omega))).alloc (by omega) _
 have HTK:=Lib.hid (htk.below ((Below.refl _ _).alloc (Nat.le_refl _) (.cells #[.int .i64 f,.int .i64 (k : Nat)] 27)))
 have HCAP:=Lib.hid hcap
 clear hb4 htk hcap HN HF
 have hzz : (w4.alloc (.cells #[.int .i64 f,.int .i64 (k : Nat)] 27)).heap.size = w4.heap.size + 1:=World.size_alloc _ _
 generalize hw5 : (w4.alloc (.cells #[.int .i64 f,.int .i64 (k : Nat)] 27)) = w5 at *
 obtain ⟨u0,u1,u2,u3,g0,g1,g2,g3,gl⟩:=HN4.out.f4
 obtain ⟨q0,q1,q2,q3,ql⟩:=HF4.out.f2
 obtain ⟨y0,y1,y2,y3,yl⟩:=HQ4.out.f2
 by_cases h0 : f = 0
 ·subst h0
  have HT:=Lib.hid (parse_any HPROG.out C c s.size L w5 HTK.out HFEW.out HCAP.out HOK.out)
  have hp : rr = parseP L s.size (fuelP L):=HP.out.trans (if_pos rfl)
  rw [← hp] at HT
  clear hp
  go_wp2_with (rw [hw5])
  clear u0 u1 u2 u3 g0 g1 g2 g3 gl q0 q1 q2 q3 ql y0 y1 y2 y3 yl
  refine HT.out.mono ?_
  rintro e5 w6 ⟨hb6,hq⟩
  have HBL6:=Lib.hid (HBL.out.trans (hb6.mono HBL.out.size))
  have HN6:=Lib.hid (HN4.out.below hb6 HN4.out.lt)
  have HF6:=Lib.hid (HF4.out.below hb6 HF4.out.lt)
  have hz9 : w.heap.size + 1 < w5.heap.size:=HF4.out.lt
  clear hb6 HN4 HF4
  obtain ⟨u0,u1,u2,u3,g0,g1,g2,g3,gl⟩:=HN6.out.f4
  obtain ⟨q0,q1,q2,q3,ql⟩:=HF6.out.f2
  rcases hq with ⟨n,s1,x,hr,rfl,hx⟩ | ⟨c9,p9,hr,hc,rfl⟩
  ·have HX:=Lib.hid hx
   clear hx
   go_wp2_with fail
   clear u0 u1 u2 u3 g0 g1 g2 g3 gl q0 q1 q2 q3 ql
   refine open_post (fun W => Blk W w.heap.size 24 #[.int .i64 x.kind,.string x.text,.int .i64 x.num,.slice x.a x.len x.cap] ∧ Blk W (w.heap.size + 1) 27 #[.int .i64 0,.int .i64 0] ∧ ParseEnd rr w (.returned (.tuple #[nvA x,.agg #[.int .i64 0,.int .i64 0]])) W) (tok_good HBL6.out HN6.out HF6.out hr HX.out (fun b hb => Nat.lt_of_lt_of_le hz9 hb) rfl) ?_
   rintro W ⟨hb1,hb2,hE⟩
   obtain ⟨v0,v1,v2,v3,-⟩:=hb1.f4
   obtain ⟨v4,v5,-⟩:=hb2.f2
   exact bodyPost_ret (v:=.tuple #[nvA x,.agg #[.int .i64 0,.int .i64 0]]) (by simp [results,Tryz.results6,go_sem,nvA,v0,v1,v2,v3,v4,v5]) rfl hE
  ·have HCN:=Lib.hid hc
   clear hc
   go_wp2_with fail
   clear u0 u1 u2 u3 g0 g1 g2 g3 gl q0 q1 q2 q3 ql
   refine open_post (fun W => Blk W w.heap.size 24 #[.int .i64 0,.string ⟨#[]⟩,.int .i64 0,.slice none 0 0] ∧ Blk W (w.heap.size + 1) 27 #[.int .i64 c9,.int .i64 (p9 : Nat)] ∧ ParseEnd rr w (.returned (.tuple #[nvA ⟨0,⟨#[]⟩,0,none,0,0⟩,.agg #[.int .i64 c9,.int .i64 (p9 : Nat)]])) W) (tok_bad HBL6.out HN6.out HF6.out hr HCN.out rfl) ?_
   rintro W ⟨hb1,hb2,hE⟩
   obtain ⟨v0,v1,v2,v3,-⟩:=hb1.f4
   obtain ⟨v4,v5,-⟩:=hb2.f2
   exact bodyPost_ret (v:=.tuple #[nvA ⟨0,⟨#[]⟩,0,none,0,0⟩,.agg #[.int .i64 c9,.int .i64 (p9 : Nat)]]) (by simp [results,Tryz.results6,go_sem,nvA,v0,v1,v2,v3,v4,v5]) rfl hE
 ·have hf : (f != 0) = true:=by simpa using h0
  have hp : rr = .no f k:=HP.out.trans (if_neg h0)
  go_wp2_with (rw [hw5])
  go_region
  go_wp2_with fail
  clear u0 u1 u2 u3 g0 g1 g2 g3 gl q0 q1 q2 q3 ql y0 y1 y2 y3 yl
  refine open_post (fun W => Blk W w.heap.size 24 #[.int .i64 0,.string ⟨#[]⟩,.int .i64 0,.slice none 0 0] ∧ Blk W (w.heap.size + 1) 27 #[.int .i64 f,.int .i64 (k : Nat)] ∧ ParseEnd rr w (.returned (.tuple #[nvA ⟨0,⟨#[]⟩,0,none,0,0⟩,.agg #[.int .i64 f,.int .i64 (k : Nat)]])) W) (tok_badD HBL.out HN4.out HF4.out hp h0 rfl) ?_
  rintro W ⟨hb1,hb2,hE⟩
  obtain ⟨v0,v1,v2,v3,-⟩:=hb1.f4
  obtain ⟨v4,v5,-⟩:=hb2.f2
  exact bodyPost_ret (v:=.tuple #[nvA ⟨0,⟨#[]⟩,0,none,0,0⟩,.agg #[.int .i64 f,.int .i64 (k : Nat)]]) (by simp [results,Tryz.results6,go_sem,nvA,v0,v1,v2,v3,v4,v5]) rfl hE
end Go.Proofs.YtbpldfmmlgkfnaaGreatDoor
