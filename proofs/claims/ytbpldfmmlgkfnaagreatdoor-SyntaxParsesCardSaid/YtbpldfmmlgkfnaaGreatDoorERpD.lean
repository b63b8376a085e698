/- The document's parser: an expression's levels, one step each. Conditions: what the lower levels do. -/
import Derived.Test.YtbpldfmmlgkfnaaGreatDoorEMemZ
import Derived.Test.YtbpldfmmlgkfnaaGreatDoorERpC
namespace Go.Proofs.YtbpldfmmlgkfnaaGreatDoor
open Go.RowKit
set_option linter.unusedVariables false
/-- What a command does at a fuel. -/
def RCall (f : Nat) (c : Cmd) (fn : FuncId) : Prop:=∀ (E : Env) (s : PS) (w : World),RGood w E s → run E.L E.e f c s ≠ .out → Calls Tryz.prog fn #[.pointer (some ⟨E.Q,0,none⟩)] w (REnd E (run E.L E.e f c s) w)
/-- What a command does where the parser has given up. -/
def RFlat (fn : FuncId) : Prop:=∀ (E : Env) (c : Int) (p : Nat) (w : World),RBad w E c p → Calls Tryz.prog fn #[.pointer (some ⟨E.Q,0,none⟩)] w (REnd E (.no c p) w)

set_option maxRecDepth 100000 in
set_option maxHeartbeats 1600000 in
theorem runary_sub {f : Nat} (ihU : RCall f .unary 130) (ihC : RCall f .call 136) (bdU : RFlat 130) {E : Env} {s : PS} {w : World} (h : RGood w E s) (hout : run E.L E.e (f + 1) .unary s ≠ .out) (h1 : seesP E.L ⟨#[45]⟩ s = true) : Calls Tryz.prog 130 #[.pointer (some ⟨E.Q,0,none⟩)] w (REnd E (run E.L E.e (f + 1) .unary s) w):=by
 have hE : RAt w E (.ok nd0 s):=h
 have HO:=Lib.hid hout
 generalize hrr : run E.L E.e (f + 1) .unary s = rr at *
 have hr:=hrr.symm
 simp only [run,nodeP,tx_nil,tx_sub,tx_not,h1,if_true,] at hr
 have HR:=Lib.hid hr
 clear hrr hr hout
 have HE:=Lib.hid hE.env
 have HQ:=Lib.hid hE.old
 have NE : Hid (¬ w.heap.size = E.Q):=by have:=hE.old;show ¬ _;omega
 have NS : Hid (∀ b,(fun b => w.heap.size < b) b → ¬ b = E.Q):=fun b hb e => by have h1:=hE.old;have h2 : w.heap.size < b:=hb;omega
 obtain ⟨o9,ho9⟩:=oZ
 have hb0:=bl w o9
 have HS:=Lib.hid (h.below hb0)
 have HT:=Lib.hid (Turned.of_below (fun b => b = E.Q) hb0)
 have HX:=zB w
 have HZ:=zN w o9
 subst ho9
 clear h hE hb0
 go_enter Tryz.func130,Tryz.ntmps130
 have H1:=Lib.hid h1
 clear h1
 go_wp2_with fail
 generalize (w.alloc (.cells #[.int .i64 0,.string ⟨#[]⟩,.int .i64 0,.slice none 0 0] 24)) = w1 at *
 refine (rsees_is HS.out H1.out).mono ?_
 rintro e w2 ⟨rfl,hb9⟩
 have ht9:=Turned.of_below (fun b => b = E.Q) hb9
 have hs9:=HS.out.below hb9
 clear hb9
 replace HX:=bT HX ht9 NE
 replace HZ:=zT HZ ht9
 replace HT:=tT HT ht9
 replace HS:=Lib.hid hs9
 clear ht9 hs9
 have hlt:=sees_lt H1.out
 have hfew:=HS.out.env.few
 have hwr : IntKind.i64.wrap ((s.i : Int) + 1) = (s.i : Int) + 1:=IntWalk.i64_in _ (by omega)
 have hst:=HS.out.step hlt
 obtain ⟨z0,z1,z2,z3,z4,z5,z6,z7,z8,z9,z10,z11,zl⟩:=HS.out.blk.f7
 have ht9:=hst.2
 have hs9:=hst.1
 clear hst
 replace HX:=bT HX ht9 NE
 replace HZ:=zT HZ ht9
 replace HT:=tT HT ht9
 replace HS:=Lib.hid hs9
 clear ht9 hs9
 go_wp2_with fail
 clear z0 z1 z2 z3 z4 z5 z6 z7 z8 z9 z10 z11 zl
 generalize (World.setCell w2 ⟨E.Q,2,none⟩ (.int .i64 ((s.i : Int) + 1))) = w3 at *
 refine ((ihU E) _ _ HS.out (fun h => HO.out (HR.out.trans (bind_out h)))).mono ?_
 rintro e w4 hq9
 rcases hq9.two (fun h => HO.out (HR.out.trans (bind_out h))) with ⟨n_k,s5,x_k,hr9,rfl,ht9,hs9,hi9⟩ | ⟨c9,p9,x_k,hr9,rfl,ht9,hs9⟩
 ·replace HR:=Lib.hid (HR.out.trans (bind_ok hr9))
  clear hr9 hq9
  have T_k:=Lib.hid (hi9.weak (S':=(fun b => w.heap.size < b)) (fun b hb h => Nat.lt_of_lt_of_le HZ.out h))
  clear hi9
  replace HX:=bT HX ht9 NE
  replace HZ:=zT HZ ht9
  replace HT:=tT HT ht9
  replace HS:=Lib.hid hs9
  clear ht9 hs9
  have NE_B1:=nE HQ HZ
  have HB_B1:=nB w4 x_k
  obtain ⟨o9,ho9⟩:=oN x_k
  replace HX:=bA HX o9
  replace T_k:=nA T_k o9
  replace HS:=Lib.hid (HS.out.below (bl _ o9))
  replace HT:=tA HT o9
  replace HZ:=zA HZ o9
  subst ho9
  go_wp2_with fail
  (try rw [← (show (World.alloc w4 (.cells #[.int .i64 x_k.kind,.string x_k.text,.int .i64 x_k.num,.slice x_k.a x_k.len x_k.cap] 24)).heap.size = _ from World.size_alloc _ _)])
  generalize (World.alloc w4 (.cells #[.int .i64 x_k.kind,.string x_k.text,.int .i64 x_k.num,.slice x_k.a x_k.len x_k.cap] 24)) = w6 at *
  have HZ0:=HZ
  obtain ⟨o9,ho9⟩:=oN x_k
  replace HX:=bA HX o9
  replace HB_B1:=bA HB_B1 o9
  replace T_k:=nA T_k o9
  replace HS:=Lib.hid (HS.out.below (bl _ o9))
  replace HT:=tA HT o9
  replace HZ:=zA HZ o9
  subst ho9
  obtain ⟨A9,c9,e9,-,hn9⟩:=(OwnN.new w6 0 [x_k] (by simp) (by simp) (Nat.zero_le _) #[.int .i64 x_k.kind,.string x_k.text,.int .i64 x_k.num,.slice x_k.a x_k.len x_k.cap] rfl).nodes (S':=(fun b => w.heap.size < b)) (AllN.one T_k.out) (fun b h => h) (fun k hk => by cases hk;exact (show w.heap.size < (World.heap w6).size from HZ0.out))
  cases e9
  have KN:=Lib.hid hn9
  clear hn9
  refine (rnode_any (r:=.ok nd0 _) 23 _ _ _ _ HS.out).mono ?_
  rintro e w7 ⟨rfl,ht9,hs9⟩
  have hs9 : RGood _ _ _:=hs9 nd0
  replace KN:=Lib.hid (KN.out.kept ht9.size (fun b hb hs => ht9.block b hb (NS.out b hs)) (fun b _ h => h))
  replace HX:=bT HX ht9 NE
  replace HB_B1:=bT HB_B1 ht9 NE_B1
  replace T_k:=nT T_k ht9 NS
  replace HZ:=zT HZ ht9
  replace HT:=tT HT ht9
  replace HS:=Lib.hid hs9
  clear ht9 hs9
  obtain ⟨u0X,u1X,u2X,u3X,g0X,g1X,g2X,g3X,glX⟩:=HX.out.f4
  go_wp2_with fail
  clear u0X u1X u2X u3X g0X g1X g2X g3X glX
  refine open_post (EndG w E _ ⟨23,⟨#[]⟩,0,(some ⟨(World.heap w6).size,0,none⟩),1,1⟩ (.mk 23 ⟨#[]⟩ 0 [n_k])) (end_good HE.out HQ.out HT.out HS.out HX.out (x:=⟨23,⟨#[]⟩,0,(some ⟨(World.heap w6).size,0,none⟩),1,1⟩) (n:=(.mk 23 ⟨#[]⟩ 0 [n_k])) ⟨⟨rfl,rfl,rfl,rfl⟩,KN.out⟩ (S:=(fun b => w.heap.size < b)) (fun b h => h)) ?_
  rintro W hE
  obtain ⟨v0,v1,v2,v3,-⟩:=hE.blk.f4
  exact bodyPost_ret (v:=nvA ⟨23,⟨#[]⟩,0,(some ⟨(World.heap w6).size,0,none⟩),1,1⟩) (by simp [results,Tryz.results130,go_sem,v0,v1,v2,v3]) rfl (hE.done HR.out)
 ·replace HR:=Lib.hid (HR.out.trans (bind_no hr9))
  clear hr9 hq9
  replace HX:=bT HX ht9 NE
  replace HZ:=zT HZ ht9
  replace HT:=tT HT ht9
  replace HS:=Lib.hid hs9
  clear ht9 hs9
  have NE_B1:=nE HQ HZ
  have HB_B1:=nB w4 x_k
  obtain ⟨o9,ho9⟩:=oN x_k
  replace HX:=bA HX o9
  replace HS:=Lib.hid (HS.out.below (bl _ o9))
  replace HT:=tA HT o9
  replace HZ:=zA HZ o9
  subst ho9
  go_wp2_with fail
  (try rw [← (show (World.alloc w4 (.cells #[.int .i64 x_k.kind,.string x_k.text,.int .i64 x_k.num,.slice x_k.a x_k.len x_k.cap] 24)).heap.size = _ from World.size_alloc _ _)])
  generalize (World.alloc w4 (.cells #[.int .i64 x_k.kind,.string x_k.text,.int .i64 x_k.num,.slice x_k.a x_k.len x_k.cap] 24)) = w8 at *
  have HZ0:=HZ
  obtain ⟨o9,ho9⟩:=oN x_k
  replace HX:=bA HX o9
  replace HB_B1:=bA HB_B1 o9
  replace HS:=Lib.hid (HS.out.below (bl _ o9))
  replace HT:=tA HT o9
  replace HZ:=zA HZ o9
  subst ho9
  refine (rnode_bad HS.out 23 _ _ _ _).mono ?_
  rintro e w9 ⟨rfl,ht9,hs9⟩
  replace HX:=bT HX ht9 NE
  replace HB_B1:=bT HB_B1 ht9 NE_B1
  replace HZ:=zT HZ ht9
  replace HT:=tT HT ht9
  replace HS:=Lib.hid hs9
  clear ht9 hs9
  obtain ⟨u0X,u1X,u2X,u3X,g0X,g1X,g2X,g3X,glX⟩:=HX.out.f4
  go_wp2_with fail
  clear u0X u1X u2X u3X g0X g1X g2X g3X glX
  refine open_post (EndB w E _ _ _) (end_bad HE.out HQ.out HT.out HS.out HX.out (x:=⟨_,_,_,_,_,_⟩)) ?_
  rintro W hE
  obtain ⟨v0,v1,v2,v3,-⟩:=hE.blk.f4
  exact bodyPost_ret (v:=nvA ⟨_,_,_,_,_,_⟩) (by simp [results,Tryz.results130,go_sem,v0,v1,v2,v3]) rfl (hE.done HR.out)
set_option maxRecDepth 100000 in
set_option maxHeartbeats 1600000 in
theorem runary_not {f : Nat} (ihU : RCall f .unary 130) (ihC : RCall f .call 136) (bdU : RFlat 130) {E : Env} {s : PS} {w : World} (h : RGood w E s) (hout : run E.L E.e (f + 1) .unary s ≠ .out) (h1 : seesP E.L ⟨#[45]⟩ s = false) (h2 : seesP E.L ⟨#[33]⟩ s = true) : Calls Tryz.prog 130 #[.pointer (some ⟨E.Q,0,none⟩)] w (REnd E (run E.L E.e (f + 1) .unary s) w):=by
 have hE : RAt w E (.ok nd0 s):=h
 have HO:=Lib.hid hout
 generalize hrr : run E.L E.e (f + 1) .unary s = rr at *
 have hr:=hrr.symm
 simp only [run,nodeP,tx_nil,tx_sub,tx_not,h1,h2,if_true,if_false,Bool.false_eq_true] at hr
 have HR:=Lib.hid hr
 clear hrr hr hout
 have HE:=Lib.hid hE.env
 have HQ:=Lib.hid hE.old
 have NE : Hid (¬ w.heap.size = E.Q):=by have:=hE.old;show ¬ _;omega
 have NS : Hid (∀ b,(fun b => w.heap.size < b) b → ¬ b = E.Q):=fun b hb e => by have h1:=hE.old;have h2 : w.heap.size < b:=hb;omega
 obtain ⟨o9,ho9⟩:=oZ
 have hb0:=bl w o9
 have HS:=Lib.hid (h.below hb0)
 have HT:=Lib.hid (Turned.of_below (fun b => b = E.Q) hb0)
 have HX:=zB w
 have HZ:=zN w o9
 subst ho9
 clear h hE hb0
 go_enter Tryz.func130,Tryz.ntmps130
 have H1:=Lib.hid h1
 have H2:=Lib.hid h2
 clear h1 h2
 go_wp2_with fail
 generalize (w.alloc (.cells #[.int .i64 0,.string ⟨#[]⟩,.int .i64 0,.slice none 0 0] 24)) = w1 at *
 refine (rsees_is HS.out H1.out).mono ?_
 rintro e w2 ⟨rfl,hb9⟩
 have ht9:=Turned.of_below (fun b => b = E.Q) hb9
 have hs9:=HS.out.below hb9
 clear hb9
 replace HX:=bT HX ht9 NE
 replace HZ:=zT HZ ht9
 replace HT:=tT HT ht9
 replace HS:=Lib.hid hs9
 clear ht9 hs9
 go_wp2_with fail
 refine (rsees_is HS.out H2.out).mono ?_
 rintro e w3 ⟨rfl,hb9⟩
 have ht9:=Turned.of_below (fun b => b = E.Q) hb9
 have hs9:=HS.out.below hb9
 clear hb9
 replace HX:=bT HX ht9 NE
 replace HZ:=zT HZ ht9
 replace HT:=tT HT ht9
 replace HS:=Lib.hid hs9
 clear ht9 hs9
 have hlt:=sees_lt H2.out
 have hfew:=HS.out.env.few
 have hwr : IntKind.i64.wrap ((s.i : Int) + 1) = (s.i : Int) + 1:=IntWalk.i64_in _ (by omega)
 have hst:=HS.out.step hlt
 obtain ⟨z0,z1,z2,z3,z4,z5,z6,z7,z8,z9,z10,z11,zl⟩:=HS.out.blk.f7
 have ht9:=hst.2
 have hs9:=hst.1
 clear hst
 replace HX:=bT HX ht9 NE
 replace HZ:=zT HZ ht9
 replace HT:=tT HT ht9
 replace HS:=Lib.hid hs9
 clear ht9 hs9
 go_wp2_with fail
 clear z0 z1 z2 z3 z4 z5 z6 z7 z8 z9 z10 z11 zl
 generalize (World.setCell w3 ⟨E.Q,2,none⟩ (.int .i64 ((s.i : Int) + 1))) = w4 at *
 refine ((ihU E) _ _ HS.out (fun h => HO.out (HR.out.trans (bind_out h)))).mono ?_
 rintro e w5 hq9
 rcases hq9.two (fun h => HO.out (HR.out.trans (bind_out h))) with ⟨n_k,s6,x_k,hr9,rfl,ht9,hs9,hi9⟩ | ⟨c9,p9,x_k,hr9,rfl,ht9,hs9⟩
 ·replace HR:=Lib.hid (HR.out.trans (bind_ok hr9))
  clear hr9 hq9
  have T_k:=Lib.hid (hi9.weak (S':=(fun b => w.heap.size < b)) (fun b hb h => Nat.lt_of_lt_of_le HZ.out h))
  clear hi9
  replace HX:=bT HX ht9 NE
  replace HZ:=zT HZ ht9
  replace HT:=tT HT ht9
  replace HS:=Lib.hid hs9
  clear ht9 hs9
  have NE_B1:=nE HQ HZ
  have HB_B1:=nB w5 x_k
  obtain ⟨o9,ho9⟩:=oN x_k
  replace HX:=bA HX o9
  replace T_k:=nA T_k o9
  replace HS:=Lib.hid (HS.out.below (bl _ o9))
  replace HT:=tA HT o9
  replace HZ:=zA HZ o9
  subst ho9
  go_wp2_with fail
  (try rw [← (show (World.alloc w5 (.cells #[.int .i64 x_k.kind,.string x_k.text,.int .i64 x_k.num,.slice x_k.a x_k.len x_k.cap] 24)).heap.size = _ from World.size_alloc _ _)])
  generalize (World.alloc w5 (.cells #[.int .i64 x_k.kind,.string x_k.text,.int .i64 x_k.num,.slice x_k.a x_k.len x_k.cap] 24)) = w7 at *
  have HZ0:=HZ
  obtain ⟨o9,ho9⟩:=oN x_k
  replace HX:=bA HX o9
  replace HB_B1:=bA HB_B1 o9
  replace T_k:=nA T_k o9
  replace HS:=Lib.hid (HS.out.below (bl _ o9))
  replace HT:=tA HT o9
  replace HZ:=zA HZ o9
  subst ho9
  obtain ⟨A9,c9,e9,-,hn9⟩:=(OwnN.new w7 0 [x_k] (by simp) (by simp) (Nat.zero_le _) #[.int .i64 x_k.kind,.string x_k.text,.int .i64 x_k.num,.slice x_k.a x_k.len x_k.cap] rfl).nodes (S':=(fun b => w.heap.size < b)) (AllN.one T_k.out) (fun b h => h) (fun k hk => by cases hk;exact (show w.heap.size < (World.heap w7).size from HZ0.out))
  cases e9
  have KN:=Lib.hid hn9
  clear hn9
  refine (rnode_any (r:=.ok nd0 _) 24 _ _ _ _ HS.out).mono ?_
  rintro e w8 ⟨rfl,ht9,hs9⟩
  have hs9 : RGood _ _ _:=hs9 nd0
  replace KN:=Lib.hid (KN.out.kept ht9.size (fun b hb hs => ht9.block b hb (NS.out b hs)) (fun b _ h => h))
  replace HX:=bT HX ht9 NE
  replace HB_B1:=bT HB_B1 ht9 NE_B1
  replace T_k:=nT T_k ht9 NS
  replace HZ:=zT HZ ht9
  replace HT:=tT HT ht9
  replace HS:=Lib.hid hs9
  clear ht9 hs9
  obtain ⟨u0X,u1X,u2X,u3X,g0X,g1X,g2X,g3X,glX⟩:=HX.out.f4
  go_wp2_with fail
  clear u0X u1X u2X u3X g0X g1X g2X g3X glX
  refine open_post (EndG w E _ ⟨24,⟨#[]⟩,0,(some ⟨(World.heap w7).size,0,none⟩),1,1⟩ (.mk 24 ⟨#[]⟩ 0 [n_k])) (end_good HE.out HQ.out HT.out HS.out HX.out (x:=⟨24,⟨#[]⟩,0,(some ⟨(World.heap w7).size,0,none⟩),1,1⟩) (n:=(.mk 24 ⟨#[]⟩ 0 [n_k])) ⟨⟨rfl,rfl,rfl,rfl⟩,KN.out⟩ (S:=(fun b => w.heap.size < b)) (fun b h => h)) ?_
  rintro W hE
  obtain ⟨v0,v1,v2,v3,-⟩:=hE.blk.f4
  exact bodyPost_ret (v:=nvA ⟨24,⟨#[]⟩,0,(some ⟨(World.heap w7).size,0,none⟩),1,1⟩) (by simp [results,Tryz.results130,go_sem,v0,v1,v2,v3]) rfl (hE.done HR.out)
 ·replace HR:=Lib.hid (HR.out.trans (bind_no hr9))
  clear hr9 hq9
  replace HX:=bT HX ht9 NE
  replace HZ:=zT HZ ht9
  replace HT:=tT HT ht9
  replace HS:=Lib.hid hs9
  clear ht9 hs9
  have NE_B1:=nE HQ HZ
  have HB_B1:=nB w5 x_k
  obtain ⟨o9,ho9⟩:=oN x_k
  replace HX:=bA HX o9
  replace HS:=Lib.hid (HS.out.below (bl _ o9))
  replace HT:=tA HT o9
  replace HZ:=zA HZ o9
  subst ho9
  go_wp2_with fail
  (try rw [← (show (World.alloc w5 (.cells #[.int .i64 x_k.kind,.string x_k.text,.int .i64 x_k.num,.slice x_k.a x_k.len x_k.cap] 24)).heap.size = _ from World.size_alloc _ _)])
  generalize (World.alloc w5 (.cells #[.int .i64 x_k.kind,.string x_k.text,.int .i64 x_k.num,.slice x_k.a x_k.len x_k.cap] 24)) = w9 at *
  have HZ0:=HZ
  obtain ⟨o9,ho9⟩:=oN x_k
  replace HX:=bA HX o9
  replace HB_B1:=bA HB_B1 o9
  replace HS:=Lib.hid (HS.out.below (bl _ o9))
  replace HT:=tA HT o9
  replace HZ:=zA HZ o9
  subst ho9
  refine (rnode_bad HS.out 24 _ _ _ _).mono ?_
  rintro e w10 ⟨rfl,ht9,hs9⟩
  replace HX:=bT HX ht9 NE
  replace HB_B1:=bT HB_B1 ht9 NE_B1
  replace HZ:=zT HZ ht9
  replace HT:=tT HT ht9
  replace HS:=Lib.hid hs9
  clear ht9 hs9
  obtain ⟨u0X,u1X,u2X,u3X,g0X,g1X,g2X,g3X,glX⟩:=HX.out.f4
  go_wp2_with fail
  clear u0X u1X u2X u3X g0X g1X g2X g3X glX
  refine open_post (EndB w E _ _ _) (end_bad HE.out HQ.out HT.out HS.out HX.out (x:=⟨_,_,_,_,_,_⟩)) ?_
  rintro W hE
  obtain ⟨v0,v1,v2,v3,-⟩:=hE.blk.f4
  exact bodyPost_ret (v:=nvA ⟨_,_,_,_,_,_⟩) (by simp [results,Tryz.results130,go_sem,v0,v1,v2,v3]) rfl (hE.done HR.out)
set_option maxRecDepth 100000 in
set_option maxHeartbeats 1600000 in
theorem runary_call {f : Nat} (ihU : RCall f .unary 130) (ihC : RCall f .call 136) (bdU : RFlat 130) {E : Env} {s : PS} {w : World} (h : RGood w E s) (hout : run E.L E.e (f + 1) .unary s ≠ .out) (h1 : seesP E.L ⟨#[45]⟩ s = false) (h2 : seesP E.L ⟨#[33]⟩ s = false) : Calls Tryz.prog 130 #[.pointer (some ⟨E.Q,0,none⟩)] w (REnd E (run E.L E.e (f + 1) .unary s) w):=by
 have hE : RAt w E (.ok nd0 s):=h
 have HO:=Lib.hid hout
 generalize hrr : run E.L E.e (f + 1) .unary s = rr at *
 have hr:=hrr.symm
 simp only [run,nodeP,tx_nil,tx_sub,tx_not,h1,h2,if_false,Bool.false_eq_true] at hr
 have HR:=Lib.hid hr
 clear hrr hr hout
 have HE:=Lib.hid hE.env
 have HQ:=Lib.hid hE.old
 have NE : Hid (¬ w.heap.size = E.Q):=by have:=hE.old;show ¬ _;omega
 have NS : Hid (∀ b,(fun b => w.heap.size < b) b → ¬ b = E.Q):=fun b hb e => by have h1:=hE.old;have h2 : w.heap.size < b:=hb;omega
 obtain ⟨o9,ho9⟩:=oZ
 have hb0:=bl w o9
 have HS:=Lib.hid (h.below hb0)
 have HT:=Lib.hid (Turned.of_below (fun b => b = E.Q) hb0)
 have HX:=zB w
 have HZ:=zN w o9
 subst ho9
 clear h hE hb0
 go_enter Tryz.func130,Tryz.ntmps130
 have H1:=Lib.hid h1
 have H2:=Lib.hid h2
 clear h1 h2
 go_wp2_with fail
 generalize (w.alloc (.cells #[.int .i64 0,.string ⟨#[]⟩,.int .i64 0,.slice none 0 0] 24)) = w1 at *
 refine (rsees_is HS.out H1.out).mono ?_
 rintro e w2 ⟨rfl,hb9⟩
 have ht9:=Turned.of_below (fun b => b = E.Q) hb9
 have hs9:=HS.out.below hb9
 clear hb9
 replace HX:=bT HX ht9 NE
 replace HZ:=zT HZ ht9
 replace HT:=tT HT ht9
 replace HS:=Lib.hid hs9
 clear ht9 hs9
 go_wp2_with fail
 refine (rsees_is HS.out H2.out).mono ?_
 rintro e w3 ⟨rfl,hb9⟩
 have ht9:=Turned.of_below (fun b => b = E.Q) hb9
 have hs9:=HS.out.below hb9
 clear hb9
 replace HX:=bT HX ht9 NE
 replace HZ:=zT HZ ht9
 replace HT:=tT HT ht9
 replace HS:=Lib.hid hs9
 clear ht9 hs9
 have HR:=Lib.hid (HR.out.trans (res_id _).symm)
 go_wp2_with fail
 refine ((ihC E) _ _ HS.out (fun h => HO.out (HR.out.trans (bind_out h)))).mono ?_
 rintro e w4 hq9
 rcases hq9.two (fun h => HO.out (HR.out.trans (bind_out h))) with ⟨n_k,s5,x_k,hr9,rfl,ht9,hs9,hi9⟩ | ⟨c9,p9,x_k,hr9,rfl,ht9,hs9⟩
 ·replace HR:=Lib.hid (HR.out.trans (bind_ok hr9))
  clear hr9 hq9
  have T_k:=Lib.hid (hi9.weak (S':=(fun b => w.heap.size < b)) (fun b hb h => Nat.lt_of_lt_of_le HZ.out h))
  clear hi9
  replace HX:=bT HX ht9 NE
  replace HZ:=zT HZ ht9
  replace HT:=tT HT ht9
  replace HS:=Lib.hid hs9
  clear ht9 hs9
  obtain ⟨u0X,u1X,u2X,u3X,g0X,g1X,g2X,g3X,glX⟩:=HX.out.f4
  go_wp2_with fail
  clear u0X u1X u2X u3X g0X g1X g2X g3X glX
  refine open_post (EndG w E _ x_k n_k) (end_good HE.out HQ.out HT.out HS.out HX.out (x:=x_k) (n:=n_k) T_k.out (S:=(fun b => w.heap.size < b)) (fun b h => h)) ?_
  rintro W hE
  obtain ⟨v0,v1,v2,v3,-⟩:=hE.blk.f4
  exact bodyPost_ret (v:=nvA x_k) (by simp [results,Tryz.results130,go_sem,v0,v1,v2,v3]) rfl (hE.done HR.out)
 ·replace HR:=Lib.hid (HR.out.trans (bind_no hr9))
  clear hr9 hq9
  replace HX:=bT HX ht9 NE
  replace HZ:=zT HZ ht9
  replace HT:=tT HT ht9
  replace HS:=Lib.hid hs9
  clear ht9 hs9
  obtain ⟨u0X,u1X,u2X,u3X,g0X,g1X,g2X,g3X,glX⟩:=HX.out.f4
  go_wp2_with fail
  clear u0X u1X u2X u3X g0X g1X g2X g3X glX
  refine open_post (EndB w E _ _ _) (end_bad HE.out HQ.out HT.out HS.out HX.out (x:=⟨_,_,_,_,_,_⟩)) ?_
  rintro W hE
  obtain ⟨v0,v1,v2,v3,-⟩:=hE.blk.f4
  exact bodyPost_ret (v:=nvA ⟨_,_,_,_,_,_⟩) (by simp [results,Tryz.results130,go_sem,v0,v1,v2,v3]) rfl (hE.done HR.out)
/-- What a loop over a node in a box holds. -/
def LInv (w : World) (E : Env) (rr : Res) (cmd : Nd → Cmd) (f b1 i : Nat) (wr : World) : Prop :=
 Turned w wr (fun b => b = E.Q) ∧ w.heap.size < wr.heap.size ∧ Blk wr w.heap.size 24 #[.int .i64 0,.string ⟨#[]⟩,.int .i64 0,.slice none 0 0] ∧
  ∃ x : NV,Blk wr b1 24 #[.int .i64 x.kind,.string x.text,.int .i64 x.num,.slice x.a x.len x.cap] ∧
   ((∃ g n s',g ≤ f ∧ rr = run E.L E.e g (cmd n) s' ∧ RGood wr E s' ∧ i ≤ s'.i ∧ IsN wr (fun b => w.heap.size < b ∧ b ≠ b1) x n) ∨ (∃ c p,rr = .no c p ∧ RBad wr E c p))
theorem box_far {w W : World} {E : Env} {R : Nat} {u0 u1 u2 u3 : Value} {S : Nat → Prop} {x : NV} {n : Nd} (h0 : EnvOk w E) (hQ : E.Q < w.heap.size) (ht : Turned w W (fun b => b = E.Q)) (hb : Blk W R 24 #[u0,u1,u2,u3]) (hR : w.heap.size < R) (v0 v1 v2 v3 : Value) :
  Turned w ((((W.setCell ⟨R,0,none⟩ v0).setCell ⟨R,1,none⟩ v1).setCell ⟨R,2,none⟩ v2).setCell ⟨R,3,none⟩ v3) (fun b => b = E.Q) ∧ w.heap.size ≤ W.heap.size ∧ W.heap.size = ((((W.setCell ⟨R,0,none⟩ v0).setCell ⟨R,1,none⟩ v1).setCell ⟨R,2,none⟩ v2).setCell ⟨R,3,none⟩ v3).heap.size ∧ Blk ((((W.setCell ⟨R,0,none⟩ v0).setCell ⟨R,1,none⟩ v1).setCell ⟨R,2,none⟩ v2).setCell ⟨R,3,none⟩ v3) R 24 #[v0,v1,v2,v3] ∧
  (∀ r,RAt W E r → RAt ((((W.setCell ⟨R,0,none⟩ v0).setCell ⟨R,1,none⟩ v1).setCell ⟨R,2,none⟩ v2).setCell ⟨R,3,none⟩ v3) E r) ∧
  (∀ k t cs,k ≠ R → Blk W k t cs → Blk ((((W.setCell ⟨R,0,none⟩ v0).setCell ⟨R,1,none⟩ v1).setCell ⟨R,2,none⟩ v2).setCell ⟨R,3,none⟩ v3) k t cs) ∧
  ((∀ b,S b → b ≠ R) → IsN W S x n → IsN ((((W.setCell ⟨R,0,none⟩ v0).setCell ⟨R,1,none⟩ v1).setCell ⟨R,2,none⟩ v2).setCell ⟨R,3,none⟩ v3) S x n):=by
 obtain ⟨h1,h2,h3,h4⟩:=box_node ht hb (Nat.le_of_lt hR) v0 v1 v2 v3
 exact ⟨h1,ht.size,h4.symm,h2,fun r hr => hr.far h0 (Nat.le_of_lt hR) hQ h3 h4,fun k t cs hk hc => (h3 k hk).trans hc,fun hS hx => hx.kept (Nat.le_of_eq h4.symm) (fun b _ hb => h3 b (hS b hb)) (fun b _ hb => hb)⟩

set_option maxRecDepth 100000 in
set_option maxHeartbeats 1600000 in
theorem rterm_any {f : Nat} (ihU : ∀ g,g ≤ f → RCall g .unary 130) (bdU : RFlat 130) {E : Env} {s : PS} {w : World} (h : RGood w E s) (hout : run E.L E.e (f + 1) .term s ≠ .out) : Calls Tryz.prog 127 #[.pointer (some ⟨E.Q,0,none⟩)] w (REnd E (run E.L E.e (f + 1) .term s) w):=by
 have hfew:=h.env.few
 have hE : RAt w E (.ok nd0 s):=h
 have HO:=Lib.hid hout
 generalize hrr : run E.L E.e (f + 1) .term s = rr at *
 have hr:=hrr.symm
 simp only [run,] at hr
 have HR:=Lib.hid hr
 clear hrr hr hout
 have HE:=Lib.hid hE.env
 have HQ:=Lib.hid hE.old
 have NE : Hid (¬ w.heap.size = E.Q):=by have:=hE.old;show ¬ _;omega
 have NS : Hid (∀ b,(fun b => w.heap.size < b) b → ¬ b = E.Q):=fun b hb e => by have h1:=hE.old;have h2 : w.heap.size < b:=hb;omega
 obtain ⟨o9,ho9⟩:=oZ
 have hb0:=bl w o9
 have HS:=Lib.hid (h.below hb0)
 have HT:=Lib.hid (Turned.of_below (fun b => b = E.Q) hb0)
 have HX:=zB w
 have HZ:=zN w o9
 subst ho9
 clear h hE hb0
 go_enter Tryz.func127,Tryz.ntmps127
 go_wp2_with fail
 generalize (w.alloc (.cells #[.int .i64 0,.string ⟨#[]⟩,.int .i64 0,.slice none 0 0] 24)) = w1 at *
 refine ((ihU f (Nat.le_refl _) E) _ _ HS.out (fun h => HO.out (HR.out.trans (bind_out h)))).mono ?_
 rintro e w2 hq9
 rcases hq9.two (fun h => HO.out (HR.out.trans (bind_out h))) with ⟨n_n,s3,x_n,hr9,rfl,ht9,hs9,hi9⟩ | ⟨c9,p9,x_n,hr9,rfl,ht9,hs9⟩
 ·replace HR:=Lib.hid (HR.out.trans (bind_ok hr9))
  clear hr9 hq9
  have T_n:=Lib.hid (hi9.weak (S':=(fun b => w.heap.size < b)) (fun b hb h => Nat.lt_of_lt_of_le HZ.out h))
  clear hi9
  replace HX:=bT HX ht9 NE
  replace HZ:=zT HZ ht9
  replace HT:=tT HT ht9
  replace HS:=Lib.hid hs9
  clear ht9 hs9
  have HZ1:=HZ
  replace T_n:=Lib.hid (T_n.out.weak (S':=(fun b => w.heap.size < b ∧ b ≠ w2.heap.size)) (fun b hb h => ⟨h,Nat.ne_of_lt hb⟩))
  have NE_n:=nE HQ HZ
  have HB_n:=nB w2 x_n
  obtain ⟨o9,ho9⟩:=oN x_n
  replace HX:=bA HX o9
  replace T_n:=nA T_n o9
  replace HS:=Lib.hid (HS.out.below (bl _ o9))
  replace HT:=tA HT o9
  replace HZ:=zA HZ o9
  subst ho9
  have HEL:=HS
  go_wp2_with fail
  (try rw [← (show (World.alloc w2 (.cells #[.int .i64 x_n.kind,.string x_n.text,.int .i64 x_n.num,.slice x_n.a x_n.len x_n.cap] 24)).heap.size = _ from World.size_alloc _ _)])
  generalize (World.alloc w2 (.cells #[.int .i64 x_n.kind,.string x_n.text,.int .i64 x_n.num,.slice x_n.a x_n.len x_n.cap] 24)) = w4 at *
  generalize w2.heap.size = b1 at *
  have NB : Hid (w.heap.size < b1):=HZ1.out
  have NE_m:=NE_n
  go_loopw [4] (fun v wr => ∃ i : Nat,v = .int .i64 (i : Int) ∧ i ≤ E.L.length ∧ LInv w E rr .termL f b1 i wr) (fun v _ => E.L.length + 1 - (intOf v).toNat)
  case atStart => exact ⟨0,rfl,Nat.zero_le _,HT.out,HZ.out,HX.out,x_n,HB_n.out,.inl ⟨f,n_n,_,Nat.le_refl _,HR.out,HS.out,Nat.zero_le _,T_n.out⟩⟩
  case round =>
   clear HT HZ HX HB_n HR HS HEL T_n
   obtain ⟨i,rfl,hi,ht,hz,hx,x_m,hb,hg⟩:=hrel
   have HT:=Lib.hid ht
   have HZ:=Lib.hid hz
   have HX:=Lib.hid hx
   have HB_m:=Lib.hid hb
   clear ht hz hx hb
   have hwi : IntKind.i64.wrap ((i : Int) + 1) = (i : Int) + 1:=IntWalk.i64_in _ (by omega)
   rcases hg with ⟨g,n_m,s1,hgf,hr,hs,his,hn⟩ | ⟨c1,p1,hr,hs⟩
   ·have HS:=Lib.hid hs
    have T_m:=Lib.hid hn
    replace NS : Hid (∀ b,(fun b => w.heap.size < b ∧ b ≠ b1) b → ¬ b = E.Q):=fun b hb => NS.out b hb.1
    cases g with
    | zero => exact absurd (hr.trans rfl) HO.out
    | succ g =>
     simp only [run,nodeP,tx_mul,tx_nil] at hr
     clear hs hn
     cases h1 : seesP E.L ⟨#[42]⟩ s1
     ·rw [if_neg (by rw [h1];decide)] at hr
      have H1:=Lib.hid h1
      clear h1
      have HR:=Lib.hid hr
      clear hr
      obtain ⟨z0,z1,z2,z3,z4,z5,z6,z7,z8,z9,z10,z11,zl⟩:=HS.out.blk.f7
      go_wp2_with fail
      clear z0 z1 z2 z3 z4 z5 z6 z7 z8 z9 z10 z11 zl
      refine (rbegins_n HS.out H1.out).mono ?_
      rintro e w5 ⟨rfl,ht9,hs9⟩
      replace HX:=bT HX ht9 NE
      replace HB_m:=bT HB_m ht9 NE_m
      replace T_m:=nT T_m ht9 NS
      replace HZ:=zT HZ ht9
      replace HT:=tT HT ht9
      replace HS:=Lib.hid hs9
      clear ht9 hs9
      obtain ⟨u0X,u1X,u2X,u3X,g0X,g1X,g2X,g3X,glX⟩:=HX.out.f4
      obtain ⟨u0m,u1m,u2m,u3m,g0m,g1m,g2m,g3m,glm⟩:=HB_m.out.f4
      go_wp2_with fail
      clear u0X u1X u2X u3X g0X g1X g2X g3X glX u0m u1m u2m u3m g0m g1m g2m g3m glm
      refine open_post (EndG w E _ x_m n_m) (end_good HE.out HQ.out HT.out HS.out HX.out (x:=x_m) (n:=n_m) T_m.out (S:=(fun b => w.heap.size < b ∧ b ≠ b1)) (fun b h => h.1)) ?_
      rintro W hE
      obtain ⟨v0,v1,v2,v3,-⟩:=hE.blk.f4
      exact bodyPost_ret (v:=nvA x_m) (by simp [results,Tryz.results127,go_sem,v0,v1,v2,v3]) rfl (hE.done HR.out)
     ·rw [if_pos h1] at hr
      have H1:=Lib.hid h1
      clear h1
      have HR:=Lib.hid hr
      clear hr
      obtain ⟨z0,z1,z2,z3,z4,z5,z6,z7,z8,z9,z10,z11,zl⟩:=HS.out.blk.f7
      go_wp2_with fail
      clear z0 z1 z2 z3 z4 z5 z6 z7 z8 z9 z10 z11 zl
      refine (rbegins_y HS.out H1.out).mono ?_
      rintro e w6 ⟨rfl,ht9,hs9⟩
      replace HX:=bT HX ht9 NE
      replace HB_m:=bT HB_m ht9 NE_m
      replace T_m:=nT T_m ht9 NS
      replace HZ:=zT HZ ht9
      replace HT:=tT HT ht9
      replace HS:=Lib.hid hs9
      clear ht9 hs9
      have hlt:=sees_lt H1.out
      go_wp2_with fail
      refine ((ihU g (Nat.le_of_succ_le hgf) E) _ _ HS.out (fun h => HO.out (HR.out.trans (bind_out h)))).mono ?_
      rintro e w7 hq9
      rcases hq9.two (fun h => HO.out (HR.out.trans (bind_out h))) with ⟨n_k,s8,x_k,hr9,rfl,ht9,hs9,hi9⟩ | ⟨c9,p9,x_k,hr9,rfl,ht9,hs9⟩
      ·replace HR:=Lib.hid (HR.out.trans (bind_ok hr9))
       have MO : Hid (s1.i + 1 ≤ s8.i):=by have h:=run_mono _ _ _ _ _ _ _ hr9;simp only [str,step_i] at h;show _ ≤ _;omega
       clear hr9 hq9
       have T_k:=Lib.hid (hi9.weak (S':=(fun b => w.heap.size < b ∧ b ≠ b1)) (fun b hb h => ⟨Nat.lt_of_lt_of_le HZ.out h,Nat.ne_of_gt (Nat.lt_of_lt_of_le HB_m.out.lt h)⟩))
       clear hi9
       replace HX:=bT HX ht9 NE
       replace HB_m:=bT HB_m ht9 NE_m
       replace T_m:=nT T_m ht9 NS
       replace HZ:=zT HZ ht9
       replace HT:=tT HT ht9
       replace HS:=Lib.hid hs9
       clear ht9 hs9
       obtain ⟨u0m,u1m,u2m,u3m,g0m,g1m,g2m,g3m,glm⟩:=HB_m.out.f4
       have NE_k:=nE HQ HZ
       have HB_k:=nB w7 x_k
       obtain ⟨o9,ho9⟩:=oN x_k
       replace HX:=bA HX o9
       replace HB_m:=bA HB_m o9
       replace T_m:=nA T_m o9
       replace T_k:=nA T_k o9
       replace HS:=Lib.hid (HS.out.below (bl _ o9))
       replace HT:=tA HT o9
       replace HZ:=zA HZ o9
       subst ho9
       go_wp2_with fail
       clear u0m u1m u2m u3m g0m g1m g2m g3m glm
       (try rw [← (show (World.alloc w7 (.cells #[.int .i64 x_k.kind,.string x_k.text,.int .i64 x_k.num,.slice x_k.a x_k.len x_k.cap] 24)).heap.size = _ from World.size_alloc _ _)])
       generalize (World.alloc w7 (.cells #[.int .i64 x_k.kind,.string x_k.text,.int .i64 x_k.num,.slice x_k.a x_k.len x_k.cap] 24)) = w9 at *
       have HZ0:=HZ
       have HB0:=HB_m
       obtain ⟨o9,ho9⟩:=oNN x_m x_k
       replace HX:=bA HX o9
       replace HB_m:=bA HB_m o9
       replace HB_k:=bA HB_k o9
       replace T_m:=nA T_m o9
       replace T_k:=nA T_k o9
       replace HS:=Lib.hid (HS.out.below (bl _ o9))
       replace HT:=tA HT o9
       replace HZ:=zA HZ o9
       subst ho9
       obtain ⟨A9,c9,e9,-,hn9⟩:=(OwnN.new w9 0 [x_m,x_k] (by simp) (by simp) (Nat.zero_le _) #[.int .i64 x_m.kind,.string x_m.text,.int .i64 x_m.num,.slice x_m.a x_m.len x_m.cap,.int .i64 x_k.kind,.string x_k.text,.int .i64 x_k.num,.slice x_k.a x_k.len x_k.cap] rfl).nodes (S':=(fun b => w.heap.size < b ∧ b ≠ b1)) (AllN.two T_m.out T_k.out) (fun b h => h) (fun k hk => by cases hk;exact ⟨HZ0.out,Nat.ne_of_gt HB0.out.lt⟩)
       cases e9
       have KN:=Lib.hid hn9
       clear hn9
       refine (rnode_any (r:=.ok nd0 _) 22 _ _ _ _ HS.out).mono ?_
       rintro e w10 ⟨rfl,ht9,hs9⟩
       have hs9 : RGood _ _ _:=hs9 nd0
       replace KN:=Lib.hid (KN.out.kept ht9.size (fun b hb hs => ht9.block b hb (NS.out b hs)) (fun b _ h => h))
       replace HX:=bT HX ht9 NE
       replace HB_m:=bT HB_m ht9 NE_m
       replace HB_k:=bT HB_k ht9 NE_k
       replace T_m:=nT T_m ht9 NS
       replace T_k:=nT T_k ht9 NS
       replace HZ:=zT HZ ht9
       replace HT:=tT HT ht9
       replace HS:=Lib.hid hs9
       clear ht9 hs9
       obtain ⟨u0m,u1m,u2m,u3m,g0m,g1m,g2m,g3m,glm⟩:=HB_m.out.f4
       go_wp2_with fail
       clear u0m u1m u2m u3m g0m g1m g2m g3m glm
       have hbf:=box_far HE.out HQ.out HT.out HB_m.out NB.out (S:=(fun b => w.heap.size < b ∧ b ≠ b1)) (x:=⟨22,⟨#[]⟩,0,(some ⟨(World.heap w9).size,0,none⟩),2,2⟩) (n:=(.mk 22 ⟨#[]⟩ 0 [n_m,n_k])) (.int .i64 22) (.string ⟨#[]⟩) (.int .i64 0) (.slice (some ⟨(World.heap w9).size,0,none⟩) 2 2)
       have HBF:=Lib.hid hbf
       clear hbf
       obtain ⟨f1,f2,f3,f4,f5,f6,f7⟩:=HBF.out
       go_roundw
       case rel => exact ⟨i + 1,by go_num,by omega,f1,Nat.lt_of_lt_of_le HZ.out (Nat.le_of_eq f3),f6 _ _ _ (Nat.ne_of_lt NB.out) HX.out,⟨22,⟨#[]⟩,0,(some ⟨(World.heap w9).size,0,none⟩),2,2⟩,f4,.inl ⟨g,(.mk 22 ⟨#[]⟩ 0 [n_m,n_k]),_,Nat.le_of_succ_le hgf,HR.out,f5 (.ok nd0 _) HS.out,Nat.le_trans (Nat.succ_le_succ his) MO.out,f7 (fun b h => h.2) ⟨⟨rfl,rfl,rfl,rfl⟩,KN.out⟩⟩⟩
       case measure => simp [intOf];omega
      ·replace HR:=Lib.hid (HR.out.trans (bind_no hr9))
       clear hr9 hq9
       replace HX:=bT HX ht9 NE
       replace HB_m:=bT HB_m ht9 NE_m
       replace HZ:=zT HZ ht9
       replace HT:=tT HT ht9
       replace HS:=Lib.hid hs9
       clear ht9 hs9
       obtain ⟨u0m,u1m,u2m,u3m,g0m,g1m,g2m,g3m,glm⟩:=HB_m.out.f4
       have NE_k:=nE HQ HZ
       have HB_k:=nB w7 x_k
       obtain ⟨o9,ho9⟩:=oN x_k
       replace HX:=bA HX o9
       replace HB_m:=bA HB_m o9
       replace HS:=Lib.hid (HS.out.below (bl _ o9))
       replace HT:=tA HT o9
       replace HZ:=zA HZ o9
       subst ho9
       go_wp2_with fail
       clear u0m u1m u2m u3m g0m g1m g2m g3m glm
       (try rw [← (show (World.alloc w7 (.cells #[.int .i64 x_k.kind,.string x_k.text,.int .i64 x_k.num,.slice x_k.a x_k.len x_k.cap] 24)).heap.size = _ from World.size_alloc _ _)])
       generalize (World.alloc w7 (.cells #[.int .i64 x_k.kind,.string x_k.text,.int .i64 x_k.num,.slice x_k.a x_k.len x_k.cap] 24)) = w11 at *
       have HZ0:=HZ
       have HB0:=HB_m
       obtain ⟨o9,ho9⟩:=oNN x_m x_k
       replace HX:=bA HX o9
       replace HB_m:=bA HB_m o9
       replace HB_k:=bA HB_k o9
       replace HS:=Lib.hid (HS.out.below (bl _ o9))
       replace HT:=tA HT o9
       replace HZ:=zA HZ o9
       subst ho9
       refine (rnode_bad HS.out 22 _ _ _ _).mono ?_
       rintro e w12 ⟨rfl,ht9,hs9⟩
       replace HX:=bT HX ht9 NE
       replace HB_m:=bT HB_m ht9 NE_m
       replace HB_k:=bT HB_k ht9 NE_k
       replace HZ:=zT HZ ht9
       replace HT:=tT HT ht9
       replace HS:=Lib.hid hs9
       clear ht9 hs9
       obtain ⟨u0m,u1m,u2m,u3m,g0m,g1m,g2m,g3m,glm⟩:=HB_m.out.f4
       go_wp2_with fail
       clear u0m u1m u2m u3m g0m g1m g2m g3m glm
       have HBF:=Lib.hid (box_far HE.out HQ.out HT.out HB_m.out NB.out (S:=fun _ => False) (x:=x_m) (n:=nd0) (.int .i64 22) (.string ⟨#[]⟩) (.int .i64 0) (.slice (some ⟨(World.heap w11).size,0,none⟩) 2 2))
       obtain ⟨f1,f2,f3,f4,f5,f6,f7⟩:=HBF.out
       go_roundw
       case rel => exact ⟨i + 1,by go_num,by omega,f1,Nat.lt_of_lt_of_le HZ.out (Nat.le_of_eq f3),f6 _ _ _ (Nat.ne_of_lt NB.out) HX.out,⟨22,⟨#[]⟩,0,some ⟨(World.heap w11).size,0,none⟩,2,2⟩,f4,.inr ⟨_,_,HR.out,f5 (.no _ _) HS.out⟩⟩
       case measure => simp [intOf];omega
   ·have HS:=Lib.hid hs
    have HR:=Lib.hid hr
    clear hs hr
    obtain ⟨zi,zd,zm,hq⟩:=HS.out.blk
    obtain ⟨z0,z1,z2,z3,z4,z5,z6,z7,z8,z9,z10,z11,zl⟩:=hq.f7
    have zc:=HS.out.ne
    clear hq
    go_wp2_with fail
    clear z0 z1 z2 z3 z4 z5 z6 z7 z8 z9 z10 z11 zl zc
    refine (rbegins_bad HS.out _).mono ?_
    rintro e w13 ⟨rfl,ht9,hs9⟩
    replace HX:=bT HX ht9 NE
    replace HB_m:=bT HB_m ht9 NE_m
    replace HZ:=zT HZ ht9
    replace HT:=tT HT ht9
    replace HS:=Lib.hid hs9
    clear ht9 hs9
    obtain ⟨u0X,u1X,u2X,u3X,g0X,g1X,g2X,g3X,glX⟩:=HX.out.f4
    obtain ⟨u0m,u1m,u2m,u3m,g0m,g1m,g2m,g3m,glm⟩:=HB_m.out.f4
    go_wp2_with fail
    clear u0X u1X u2X u3X g0X g1X g2X g3X glX u0m u1m u2m u3m g0m g1m g2m g3m glm
    refine open_post (EndB w E _ _ _) (end_bad HE.out HQ.out HT.out HS.out HX.out (x:=⟨_,_,_,_,_,_⟩)) ?_
    rintro W hE
    obtain ⟨v0,v1,v2,v3,-⟩:=hE.blk.f4
    exact bodyPost_ret (v:=nvA ⟨_,_,_,_,_,_⟩) (by simp [results,Tryz.results127,go_sem,v0,v1,v2,v3]) rfl (hE.done HR.out)
 ·replace HR:=Lib.hid (HR.out.trans (bind_no hr9))
  clear hr9 hq9
  replace HX:=bT HX ht9 NE
  replace HZ:=zT HZ ht9
  replace HT:=tT HT ht9
  replace HS:=Lib.hid hs9
  clear ht9 hs9
  have HZ1:=HZ
  have NE_n:=nE HQ HZ
  have HB_n:=nB w2 x_n
  obtain ⟨o9,ho9⟩:=oN x_n
  replace HX:=bA HX o9
  replace HS:=Lib.hid (HS.out.below (bl _ o9))
  replace HT:=tA HT o9
  replace HZ:=zA HZ o9
  subst ho9
  have HEL:=HS
  go_wp2_with fail
  (try rw [← (show (World.alloc w2 (.cells #[.int .i64 x_n.kind,.string x_n.text,.int .i64 x_n.num,.slice x_n.a x_n.len x_n.cap] 24)).heap.size = _ from World.size_alloc _ _)])
  generalize (World.alloc w2 (.cells #[.int .i64 x_n.kind,.string x_n.text,.int .i64 x_n.num,.slice x_n.a x_n.len x_n.cap] 24)) = w14 at *
  generalize w2.heap.size = b1 at *
  have NB : Hid (w.heap.size < b1):=HZ1.out
  have NE_m:=NE_n
  go_loopw [4] (fun v wr => ∃ i : Nat,v = .int .i64 (i : Int) ∧ i ≤ E.L.length ∧ LInv w E rr .termL f b1 i wr) (fun v _ => E.L.length + 1 - (intOf v).toNat)
  case atStart => exact ⟨0,rfl,Nat.zero_le _,HT.out,HZ.out,HX.out,x_n,HB_n.out,.inr ⟨_,_,HR.out,HS.out⟩⟩
  case round =>
   clear HT HZ HX HB_n HR HS HEL
   obtain ⟨i,rfl,hi,ht,hz,hx,x_m,hb,hg⟩:=hrel
   have HT:=Lib.hid ht
   have HZ:=Lib.hid hz
   have HX:=Lib.hid hx
   have HB_m:=Lib.hid hb
   clear ht hz hx hb
   have hwi : IntKind.i64.wrap ((i : Int) + 1) = (i : Int) + 1:=IntWalk.i64_in _ (by omega)
   rcases hg with ⟨g,n_m,s1,hgf,hr,hs,his,hn⟩ | ⟨c1,p1,hr,hs⟩
   ·have HS:=Lib.hid hs
    have T_m:=Lib.hid hn
    replace NS : Hid (∀ b,(fun b => w.heap.size < b ∧ b ≠ b1) b → ¬ b = E.Q):=fun b hb => NS.out b hb.1
    cases g with
    | zero => exact absurd (hr.trans rfl) HO.out
    | succ g =>
     simp only [run,nodeP,tx_mul,tx_nil] at hr
     clear hs hn
     cases h1 : seesP E.L ⟨#[42]⟩ s1
     ·rw [if_neg (by rw [h1];decide)] at hr
      have H1:=Lib.hid h1
      clear h1
      have HR:=Lib.hid hr
      clear hr
      obtain ⟨z0,z1,z2,z3,z4,z5,z6,z7,z8,z9,z10,z11,zl⟩:=HS.out.blk.f7
      go_wp2_with fail
      clear z0 z1 z2 z3 z4 z5 z6 z7 z8 z9 z10 z11 zl
      refine (rbegins_n HS.out H1.out).mono ?_
      rintro e w15 ⟨rfl,ht9,hs9⟩
      replace HX:=bT HX ht9 NE
      replace HB_m:=bT HB_m ht9 NE_m
      replace T_m:=nT T_m ht9 NS
      replace HZ:=zT HZ ht9
      replace HT:=tT HT ht9
      replace HS:=Lib.hid hs9
      clear ht9 hs9
      obtain ⟨u0X,u1X,u2X,u3X,g0X,g1X,g2X,g3X,glX⟩:=HX.out.f4
      obtain ⟨u0m,u1m,u2m,u3m,g0m,g1m,g2m,g3m,glm⟩:=HB_m.out.f4
      go_wp2_with fail
      clear u0X u1X u2X u3X g0X g1X g2X g3X glX u0m u1m u2m u3m g0m g1m g2m g3m glm
      refine open_post (EndG w E _ x_m n_m) (end_good HE.out HQ.out HT.out HS.out HX.out (x:=x_m) (n:=n_m) T_m.out (S:=(fun b => w.heap.size < b ∧ b ≠ b1)) (fun b h => h.1)) ?_
      rintro W hE
      obtain ⟨v0,v1,v2,v3,-⟩:=hE.blk.f4
      exact bodyPost_ret (v:=nvA x_m) (by simp [results,Tryz.results127,go_sem,v0,v1,v2,v3]) rfl (hE.done HR.out)
     ·rw [if_pos h1] at hr
      have H1:=Lib.hid h1
      clear h1
      have HR:=Lib.hid hr
      clear hr
      obtain ⟨z0,z1,z2,z3,z4,z5,z6,z7,z8,z9,z10,z11,zl⟩:=HS.out.blk.f7
      go_wp2_with fail
      clear z0 z1 z2 z3 z4 z5 z6 z7 z8 z9 z10 z11 zl
      refine (rbegins_y HS.out H1.out).mono ?_
      rintro e w16 ⟨rfl,ht9,hs9⟩
      replace HX:=bT HX ht9 NE
      replace HB_m:=bT HB_m ht9 NE_m
      replace T_m:=nT T_m ht9 NS
      replace HZ:=zT HZ ht9
      replace HT:=tT HT ht9
      replace HS:=Lib.hid hs9
      clear ht9 hs9
      have hlt:=sees_lt H1.out
      go_wp2_with fail
      refine ((ihU g (Nat.le_of_succ_le hgf) E) _ _ HS.out (fun h => HO.out (HR.out.trans (bind_out h)))).mono ?_
      rintro e w17 hq9
      rcases hq9.two (fun h => HO.out (HR.out.trans (bind_out h))) with ⟨n_k,s18,x_k,hr9,rfl,ht9,hs9,hi9⟩ | ⟨c9,p9,x_k,hr9,rfl,ht9,hs9⟩
      ·replace HR:=Lib.hid (HR.out.trans (bind_ok hr9))
       have MO : Hid (s1.i + 1 ≤ s18.i):=by have h:=run_mono _ _ _ _ _ _ _ hr9;simp only [str,step_i] at h;show _ ≤ _;omega
       clear hr9 hq9
       have T_k:=Lib.hid (hi9.weak (S':=(fun b => w.heap.size < b ∧ b ≠ b1)) (fun b hb h => ⟨Nat.lt_of_lt_of_le HZ.out h,Nat.ne_of_gt (Nat.lt_of_lt_of_le HB_m.out.lt h)⟩))
       clear hi9
       replace HX:=bT HX ht9 NE
       replace HB_m:=bT HB_m ht9 NE_m
       replace T_m:=nT T_m ht9 NS
       replace HZ:=zT HZ ht9
       replace HT:=tT HT ht9
       replace HS:=Lib.hid hs9
       clear ht9 hs9
       obtain ⟨u0m,u1m,u2m,u3m,g0m,g1m,g2m,g3m,glm⟩:=HB_m.out.f4
       have NE_k:=nE HQ HZ
       have HB_k:=nB w17 x_k
       obtain ⟨o9,ho9⟩:=oN x_k
       replace HX:=bA HX o9
       replace HB_m:=bA HB_m o9
       replace T_m:=nA T_m o9
       replace T_k:=nA T_k o9
       replace HS:=Lib.hid (HS.out.below (bl _ o9))
       replace HT:=tA HT o9
       replace HZ:=zA HZ o9
       subst ho9
       go_wp2_with fail
       clear u0m u1m u2m u3m g0m g1m g2m g3m glm
       (try rw [← (show (World.alloc w17 (.cells #[.int .i64 x_k.kind,.string x_k.text,.int .i64 x_k.num,.slice x_k.a x_k.len x_k.cap] 24)).heap.size = _ from World.size_alloc _ _)])
       generalize (World.alloc w17 (.cells #[.int .i64 x_k.kind,.string x_k.text,.int .i64 x_k.num,.slice x_k.a x_k.len x_k.cap] 24)) = w19 at *
       have HZ0:=HZ
       have HB0:=HB_m
       obtain ⟨o9,ho9⟩:=oNN x_m x_k
       replace HX:=bA HX o9
       replace HB_m:=bA HB_m o9
       replace HB_k:=bA HB_k o9
       replace T_m:=nA T_m o9
       replace T_k:=nA T_k o9
       replace HS:=Lib.hid (HS.out.below (bl _ o9))
       replace HT:=tA HT o9
       replace HZ:=zA HZ o9
       subst ho9
       obtain ⟨A9,c9,e9,-,hn9⟩:=(OwnN.new w19 0 [x_m,x_k] (by simp) (by simp) (Nat.zero_le _) #[.int .i64 x_m.kind,.string x_m.text,.int .i64 x_m.num,.slice x_m.a x_m.len x_m.cap,.int .i64 x_k.kind,.string x_k.text,.int .i64 x_k.num,.slice x_k.a x_k.len x_k.cap] rfl).nodes (S':=(fun b => w.heap.size < b ∧ b ≠ b1)) (AllN.two T_m.out T_k.out) (fun b h => h) (fun k hk => by cases hk;exact ⟨HZ0.out,Nat.ne_of_gt HB0.out.lt⟩)
       cases e9
       have KN:=Lib.hid hn9
       clear hn9
       refine (rnode_any (r:=.ok nd0 _) 22 _ _ _ _ HS.out).mono ?_
       rintro e w20 ⟨rfl,ht9,hs9⟩
       have hs9 : RGood _ _ _:=hs9 nd0
       replace KN:=Lib.hid (KN.out.kept ht9.size (fun b hb hs => ht9.block b hb (NS.out b hs)) (fun b _ h => h))
       replace HX:=bT HX ht9 NE
       replace HB_m:=bT HB_m ht9 NE_m
       replace HB_k:=bT HB_k ht9 NE_k
       replace T_m:=nT T_m ht9 NS
       replace T_k:=nT T_k ht9 NS
       replace HZ:=zT HZ ht9
       replace HT:=tT HT ht9
       replace HS:=Lib.hid hs9
       clear ht9 hs9
       obtain ⟨u0m,u1m,u2m,u3m,g0m,g1m,g2m,g3m,glm⟩:=HB_m.out.f4
       go_wp2_with fail
       clear u0m u1m u2m u3m g0m g1m g2m g3m glm
       have hbf:=box_far HE.out HQ.out HT.out HB_m.out NB.out (S:=(fun b => w.heap.size < b ∧ b ≠ b1)) (x:=⟨22,⟨#[]⟩,0,(some ⟨(World.heap w19).size,0,none⟩),2,2⟩) (n:=(.mk 22 ⟨#[]⟩ 0 [n_m,n_k])) (.int .i64 22) (.string ⟨#[]⟩) (.int .i64 0) (.slice (some ⟨(World.heap w19).size,0,none⟩) 2 2)
       have HBF:=Lib.hid hbf
       clear hbf
       obtain ⟨f1,f2,f3,f4,f5,f6,f7⟩:=HBF.out
       go_roundw
       case rel => exact ⟨i + 1,by go_num,by omega,f1,Nat.lt_of_lt_of_le HZ.out (Nat.le_of_eq f3),f6 _ _ _ (Nat.ne_of_lt NB.out) HX.out,⟨22,⟨#[]⟩,0,(some ⟨(World.heap w19).size,0,none⟩),2,2⟩,f4,.inl ⟨g,(.mk 22 ⟨#[]⟩ 0 [n_m,n_k]),_,Nat.le_of_succ_le hgf,HR.out,f5 (.ok nd0 _) HS.out,Nat.le_trans (Nat.succ_le_succ his) MO.out,f7 (fun b h => h.2) ⟨⟨rfl,rfl,rfl,rfl⟩,KN.out⟩⟩⟩
       case measure => simp [intOf];omega
      ·replace HR:=Lib.hid (HR.out.trans (bind_no hr9))
       clear hr9 hq9
       replace HX:=bT HX ht9 NE
       replace HB_m:=bT HB_m ht9 NE_m
       replace HZ:=zT HZ ht9
       replace HT:=tT HT ht9
       replace HS:=Lib.hid hs9
       clear ht9 hs9
       obtain ⟨u0m,u1m,u2m,u3m,g0m,g1m,g2m,g3m,glm⟩:=HB_m.out.f4
       have NE_k:=nE HQ HZ
       have HB_k:=nB w17 x_k
       obtain ⟨o9,ho9⟩:=oN x_k
       replace HX:=bA HX o9
       replace HB_m:=bA HB_m o9
       replace HS:=Lib.hid (HS.out.below (bl _ o9))
       replace HT:=tA HT o9
       replace HZ:=zA HZ o9
       subst ho9
       go_wp2_with fail
       clear u0m u1m u2m u3m g0m g1m g2m g3m glm
       (try rw [← (show (World.alloc w17 (.cells #[.int .i64 x_k.kind,.string x_k.text,.int .i64 x_k.num,.slice x_k.a x_k.len x_k.cap] 24)).heap.size = _ from World.size_alloc _ _)])
       generalize (World.alloc w17 (.cells #[.int .i64 x_k.kind,.string x_k.text,.int .i64 x_k.num,.slice x_k.a x_k.len x_k.cap] 24)) = w21 at *
       have HZ0:=HZ
       have HB0:=HB_m
       obtain ⟨o9,ho9⟩:=oNN x_m x_k
       replace HX:=bA HX o9
       replace HB_m:=bA HB_m o9
       replace HB_k:=bA HB_k o9
       replace HS:=Lib.hid (HS.out.below (bl _ o9))
       replace HT:=tA HT o9
       replace HZ:=zA HZ o9
       subst ho9
       refine (rnode_bad HS.out 22 _ _ _ _).mono ?_
       rintro e w22 ⟨rfl,ht9,hs9⟩
       replace HX:=bT HX ht9 NE
       replace HB_m:=bT HB_m ht9 NE_m
       replace HB_k:=bT HB_k ht9 NE_k
       replace HZ:=zT HZ ht9
       replace HT:=tT HT ht9
       replace HS:=Lib.hid hs9
       clear ht9 hs9
       obtain ⟨u0m,u1m,u2m,u3m,g0m,g1m,g2m,g3m,glm⟩:=HB_m.out.f4
       go_wp2_with fail
       clear u0m u1m u2m u3m g0m g1m g2m g3m glm
       have HBF:=Lib.hid (box_far HE.out HQ.out HT.out HB_m.out NB.out (S:=fun _ => False) (x:=x_m) (n:=nd0) (.int .i64 22) (.string ⟨#[]⟩) (.int .i64 0) (.slice (some ⟨(World.heap w21).size,0,none⟩) 2 2))
       obtain ⟨f1,f2,f3,f4,f5,f6,f7⟩:=HBF.out
       go_roundw
       case rel => exact ⟨i + 1,by go_num,by omega,f1,Nat.lt_of_lt_of_le HZ.out (Nat.le_of_eq f3),f6 _ _ _ (Nat.ne_of_lt NB.out) HX.out,⟨22,⟨#[]⟩,0,some ⟨(World.heap w21).size,0,none⟩,2,2⟩,f4,.inr ⟨_,_,HR.out,f5 (.no _ _) HS.out⟩⟩
       case measure => simp [intOf];omega
   ·have HS:=Lib.hid hs
    have HR:=Lib.hid hr
    clear hs hr
    obtain ⟨zi,zd,zm,hq⟩:=HS.out.blk
    obtain ⟨z0,z1,z2,z3,z4,z5,z6,z7,z8,z9,z10,z11,zl⟩:=hq.f7
    have zc:=HS.out.ne
    clear hq
    go_wp2_with fail
    clear z0 z1 z2 z3 z4 z5 z6 z7 z8 z9 z10 z11 zl zc
    refine (rbegins_bad HS.out _).mono ?_
    rintro e w23 ⟨rfl,ht9,hs9⟩
    replace HX:=bT HX ht9 NE
    replace HB_m:=bT HB_m ht9 NE_m
    replace HZ:=zT HZ ht9
    replace HT:=tT HT ht9
    replace HS:=Lib.hid hs9
    clear ht9 hs9
    obtain ⟨u0X,u1X,u2X,u3X,g0X,g1X,g2X,g3X,glX⟩:=HX.out.f4
    obtain ⟨u0m,u1m,u2m,u3m,g0m,g1m,g2m,g3m,glm⟩:=HB_m.out.f4
    go_wp2_with fail
    clear u0X u1X u2X u3X g0X g1X g2X g3X glX u0m u1m u2m u3m g0m g1m g2m g3m glm
    refine open_post (EndB w E _ _ _) (end_bad HE.out HQ.out HT.out HS.out HX.out (x:=⟨_,_,_,_,_,_⟩)) ?_
    rintro W hE
    obtain ⟨v0,v1,v2,v3,-⟩:=hE.blk.f4
    exact bodyPost_ret (v:=nvA ⟨_,_,_,_,_,_⟩) (by simp [results,Tryz.results127,go_sem,v0,v1,v2,v3]) rfl (hE.done HR.out)
set_option maxRecDepth 100000 in
set_option maxHeartbeats 1600000 in
theorem rsum_any {f : Nat} (ihT : ∀ g,g ≤ f → RCall g .term 127) (bdT : RFlat 127) {E : Env} {s : PS} {w : World} (h : RGood w E s) (hout : run E.L E.e (f + 1) .sum s ≠ .out) : Calls Tryz.prog 121 #[.pointer (some ⟨E.Q,0,none⟩)] w (REnd E (run E.L E.e (f + 1) .sum s) w):=by
 have hfew:=h.env.few
 have hE : RAt w E (.ok nd0 s):=h
 have HO:=Lib.hid hout
 generalize hrr : run E.L E.e (f + 1) .sum s = rr at *
 have hr:=hrr.symm
 simp only [run,] at hr
 have HR:=Lib.hid hr
 clear hrr hr hout
 have HE:=Lib.hid hE.env
 have HQ:=Lib.hid hE.old
 have NE : Hid (¬ w.heap.size = E.Q):=by have:=hE.old;show ¬ _;omega
 have NS : Hid (∀ b,(fun b => w.heap.size < b) b → ¬ b = E.Q):=fun b hb e => by have h1:=hE.old;have h2 : w.heap.size < b:=hb;omega
 obtain ⟨o9,ho9⟩:=oZ
 have hb0:=bl w o9
 have HS:=Lib.hid (h.below hb0)
 have HT:=Lib.hid (Turned.of_below (fun b => b = E.Q) hb0)
 have HX:=zB w
 have HZ:=zN w o9
 subst ho9
 clear h hE hb0
 go_enter Tryz.func121,Tryz.ntmps121
 go_wp2_with fail
 generalize (w.alloc (.cells #[.int .i64 0,.string ⟨#[]⟩,.int .i64 0,.slice none 0 0] 24)) = w1 at *
 refine ((ihT f (Nat.le_refl _) E) _ _ HS.out (fun h => HO.out (HR.out.trans (bind_out h)))).mono ?_
 rintro e w2 hq9
 rcases hq9.two (fun h => HO.out (HR.out.trans (bind_out h))) with ⟨n_n,s3,x_n,hr9,rfl,ht9,hs9,hi9⟩ | ⟨c9,p9,x_n,hr9,rfl,ht9,hs9⟩
 ·replace HR:=Lib.hid (HR.out.trans (bind_ok hr9))
  clear hr9 hq9
  have T_n:=Lib.hid (hi9.weak (S':=(fun b => w.heap.size < b)) (fun b hb h => Nat.lt_of_lt_of_le HZ.out h))
  clear hi9
  replace HX:=bT HX ht9 NE
  replace HZ:=zT HZ ht9
  replace HT:=tT HT ht9
  replace HS:=Lib.hid hs9
  clear ht9 hs9
  have HZ1:=HZ
  replace T_n:=Lib.hid (T_n.out.weak (S':=(fun b => w.heap.size < b ∧ b ≠ w2.heap.size)) (fun b hb h => ⟨h,Nat.ne_of_lt hb⟩))
  have NE_n:=nE HQ HZ
  have HB_n:=nB w2 x_n
  obtain ⟨o9,ho9⟩:=oN x_n
  replace HX:=bA HX o9
  replace T_n:=nA T_n o9
  replace HS:=Lib.hid (HS.out.below (bl _ o9))
  replace HT:=tA HT o9
  replace HZ:=zA HZ o9
  subst ho9
  have HEL:=HS
  go_wp2_with fail
  (try rw [← (show (World.alloc w2 (.cells #[.int .i64 x_n.kind,.string x_n.text,.int .i64 x_n.num,.slice x_n.a x_n.len x_n.cap] 24)).heap.size = _ from World.size_alloc _ _)])
  generalize (World.alloc w2 (.cells #[.int .i64 x_n.kind,.string x_n.text,.int .i64 x_n.num,.slice x_n.a x_n.len x_n.cap] 24)) = w4 at *
  generalize w2.heap.size = b1 at *
  have NB : Hid (w.heap.size < b1):=HZ1.out
  have NE_m:=NE_n
  go_loopw [4] (fun v wr => ∃ i : Nat,v = .int .i64 (i : Int) ∧ i ≤ E.L.length ∧ LInv w E rr .sumL f b1 i wr) (fun v _ => E.L.length + 1 - (intOf v).toNat)
  case atStart => exact ⟨0,rfl,Nat.zero_le _,HT.out,HZ.out,HX.out,x_n,HB_n.out,.inl ⟨f,n_n,_,Nat.le_refl _,HR.out,HS.out,Nat.zero_le _,T_n.out⟩⟩
  case round =>
   clear HT HZ HX HB_n HR HS HEL T_n
   obtain ⟨i,rfl,hi,ht,hz,hx,x_m,hb,hg⟩:=hrel
   have HT:=Lib.hid ht
   have HZ:=Lib.hid hz
   have HX:=Lib.hid hx
   have HB_m:=Lib.hid hb
   clear ht hz hx hb
   have hwi : IntKind.i64.wrap ((i : Int) + 1) = (i : Int) + 1:=IntWalk.i64_in _ (by omega)
   rcases hg with ⟨g,n_m,s1,hgf,hr,hs,his,hn⟩ | ⟨c1,p1,hr,hs⟩
   ·have HS:=Lib.hid hs
    have T_m:=Lib.hid hn
    replace NS : Hid (∀ b,(fun b => w.heap.size < b ∧ b ≠ b1) b → ¬ b = E.Q):=fun b hb => NS.out b hb.1
    cases g with
    | zero => exact absurd (hr.trans rfl) HO.out
    | succ g =>
     simp only [run,nodeP,tx_add,tx_sub,tx_nil] at hr
     clear hs hn
     cases h1 : seesP E.L ⟨#[43]⟩ s1
     ·rw [if_neg (by rw [h1];decide)] at hr
      have H1:=Lib.hid h1
      clear h1
      cases h2 : seesP E.L ⟨#[45]⟩ s1
      ·rw [if_neg (by rw [h2];decide)] at hr
       have H2:=Lib.hid h2
       clear h2
       have HR:=Lib.hid hr
       clear hr
       obtain ⟨z0,z1,z2,z3,z4,z5,z6,z7,z8,z9,z10,z11,zl⟩:=HS.out.blk.f7
       go_wp2_with fail
       clear z0 z1 z2 z3 z4 z5 z6 z7 z8 z9 z10 z11 zl
       refine (rbegins_n HS.out H1.out).mono ?_
       rintro e w5 ⟨rfl,ht9,hs9⟩
       replace HX:=bT HX ht9 NE
       replace HB_m:=bT HB_m ht9 NE_m
       replace T_m:=nT T_m ht9 NS
       replace HZ:=zT HZ ht9
       replace HT:=tT HT ht9
       replace HS:=Lib.hid hs9
       clear ht9 hs9
       go_wp2_with fail
       refine (rbegins_n HS.out H2.out).mono ?_
       rintro e w6 ⟨rfl,ht9,hs9⟩
       replace HX:=bT HX ht9 NE
       replace HB_m:=bT HB_m ht9 NE_m
       replace T_m:=nT T_m ht9 NS
       replace HZ:=zT HZ ht9
       replace HT:=tT HT ht9
       replace HS:=Lib.hid hs9
       clear ht9 hs9
       obtain ⟨u0X,u1X,u2X,u3X,g0X,g1X,g2X,g3X,glX⟩:=HX.out.f4
       obtain ⟨u0m,u1m,u2m,u3m,g0m,g1m,g2m,g3m,glm⟩:=HB_m.out.f4
       go_wp2_with fail
       clear u0X u1X u2X u3X g0X g1X g2X g3X glX u0m u1m u2m u3m g0m g1m g2m g3m glm
       refine open_post (EndG w E _ x_m n_m) (end_good HE.out HQ.out HT.out HS.out HX.out (x:=x_m) (n:=n_m) T_m.out (S:=(fun b => w.heap.size < b ∧ b ≠ b1)) (fun b h => h.1)) ?_
       rintro W hE
       obtain ⟨v0,v1,v2,v3,-⟩:=hE.blk.f4
       exact bodyPost_ret (v:=nvA x_m) (by simp [results,Tryz.results121,go_sem,v0,v1,v2,v3]) rfl (hE.done HR.out)
      ·rw [if_pos h2] at hr
       have H2:=Lib.hid h2
       clear h2
       have HR:=Lib.hid hr
       clear hr
       obtain ⟨z0,z1,z2,z3,z4,z5,z6,z7,z8,z9,z10,z11,zl⟩:=HS.out.blk.f7
       go_wp2_with fail
       clear z0 z1 z2 z3 z4 z5 z6 z7 z8 z9 z10 z11 zl
       refine (rbegins_n HS.out H1.out).mono ?_
       rintro e w7 ⟨rfl,ht9,hs9⟩
       replace HX:=bT HX ht9 NE
       replace HB_m:=bT HB_m ht9 NE_m
       replace T_m:=nT T_m ht9 NS
       replace HZ:=zT HZ ht9
       replace HT:=tT HT ht9
       replace HS:=Lib.hid hs9
       clear ht9 hs9
       go_wp2_with fail
       refine (rbegins_y HS.out H2.out).mono ?_
       rintro e w8 ⟨rfl,ht9,hs9⟩
       replace HX:=bT HX ht9 NE
       replace HB_m:=bT HB_m ht9 NE_m
       replace T_m:=nT T_m ht9 NS
       replace HZ:=zT HZ ht9
       replace HT:=tT HT ht9
       replace HS:=Lib.hid hs9
       clear ht9 hs9
       have hlt:=sees_lt H2.out
       go_wp2_with fail
       refine ((ihT g (Nat.le_of_succ_le hgf) E) _ _ HS.out (fun h => HO.out (HR.out.trans (bind_out h)))).mono ?_
       rintro e w9 hq9
       rcases hq9.two (fun h => HO.out (HR.out.trans (bind_out h))) with ⟨n_k,s10,x_k,hr9,rfl,ht9,hs9,hi9⟩ | ⟨c9,p9,x_k,hr9,rfl,ht9,hs9⟩
       ·replace HR:=Lib.hid (HR.out.trans (bind_ok hr9))
        have MO : Hid (s1.i + 1 ≤ s10.i):=by have h:=run_mono _ _ _ _ _ _ _ hr9;simp only [str,step_i] at h;show _ ≤ _;omega
        clear hr9 hq9
        have T_k:=Lib.hid (hi9.weak (S':=(fun b => w.heap.size < b ∧ b ≠ b1)) (fun b hb h => ⟨Nat.lt_of_lt_of_le HZ.out h,Nat.ne_of_gt (Nat.lt_of_lt_of_le HB_m.out.lt h)⟩))
        clear hi9
        replace HX:=bT HX ht9 NE
        replace HB_m:=bT HB_m ht9 NE_m
        replace T_m:=nT T_m ht9 NS
        replace HZ:=zT HZ ht9
        replace HT:=tT HT ht9
        replace HS:=Lib.hid hs9
        clear ht9 hs9
        obtain ⟨u0m,u1m,u2m,u3m,g0m,g1m,g2m,g3m,glm⟩:=HB_m.out.f4
        have NE_k:=nE HQ HZ
        have HB_k:=nB w9 x_k
        obtain ⟨o9,ho9⟩:=oN x_k
        replace HX:=bA HX o9
        replace HB_m:=bA HB_m o9
        replace T_m:=nA T_m o9
        replace T_k:=nA T_k o9
        replace HS:=Lib.hid (HS.out.below (bl _ o9))
        replace HT:=tA HT o9
        replace HZ:=zA HZ o9
        subst ho9
        go_wp2_with fail
        clear u0m u1m u2m u3m g0m g1m g2m g3m glm
        (try rw [← (show (World.alloc w9 (.cells #[.int .i64 x_k.kind,.string x_k.text,.int .i64 x_k.num,.slice x_k.a x_k.len x_k.cap] 24)).heap.size = _ from World.size_alloc _ _)])
        generalize (World.alloc w9 (.cells #[.int .i64 x_k.kind,.string x_k.text,.int .i64 x_k.num,.slice x_k.a x_k.len x_k.cap] 24)) = w11 at *
        have HZ0:=HZ
        have HB0:=HB_m
        obtain ⟨o9,ho9⟩:=oNN x_m x_k
        replace HX:=bA HX o9
        replace HB_m:=bA HB_m o9
        replace HB_k:=bA HB_k o9
        replace T_m:=nA T_m o9
        replace T_k:=nA T_k o9
        replace HS:=Lib.hid (HS.out.below (bl _ o9))
        replace HT:=tA HT o9
        replace HZ:=zA HZ o9
        subst ho9
        obtain ⟨A9,c9,e9,-,hn9⟩:=(OwnN.new w11 0 [x_m,x_k] (by simp) (by simp) (Nat.zero_le _) #[.int .i64 x_m.kind,.string x_m.text,.int .i64 x_m.num,.slice x_m.a x_m.len x_m.cap,.int .i64 x_k.kind,.string x_k.text,.int .i64 x_k.num,.slice x_k.a x_k.len x_k.cap] rfl).nodes (S':=(fun b => w.heap.size < b ∧ b ≠ b1)) (AllN.two T_m.out T_k.out) (fun b h => h) (fun k hk => by cases hk;exact ⟨HZ0.out,Nat.ne_of_gt HB0.out.lt⟩)
        cases e9
        have KN:=Lib.hid hn9
        clear hn9
        refine (rnode_any (r:=.ok nd0 _) 21 _ _ _ _ HS.out).mono ?_
        rintro e w12 ⟨rfl,ht9,hs9⟩
        have hs9 : RGood _ _ _:=hs9 nd0
        replace KN:=Lib.hid (KN.out.kept ht9.size (fun b hb hs => ht9.block b hb (NS.out b hs)) (fun b _ h => h))
        replace HX:=bT HX ht9 NE
        replace HB_m:=bT HB_m ht9 NE_m
        replace HB_k:=bT HB_k ht9 NE_k
        replace T_m:=nT T_m ht9 NS
        replace T_k:=nT T_k ht9 NS
        replace HZ:=zT HZ ht9
        replace HT:=tT HT ht9
        replace HS:=Lib.hid hs9
        clear ht9 hs9
        obtain ⟨u0m,u1m,u2m,u3m,g0m,g1m,g2m,g3m,glm⟩:=HB_m.out.f4
        go_wp2_with fail
        clear u0m u1m u2m u3m g0m g1m g2m g3m glm
        have hbf:=box_far HE.out HQ.out HT.out HB_m.out NB.out (S:=(fun b => w.heap.size < b ∧ b ≠ b1)) (x:=⟨21,⟨#[]⟩,0,(some ⟨(World.heap w11).size,0,none⟩),2,2⟩) (n:=(.mk 21 ⟨#[]⟩ 0 [n_m,n_k])) (.int .i64 21) (.string ⟨#[]⟩) (.int .i64 0) (.slice (some ⟨(World.heap w11).size,0,none⟩) 2 2)
        have HBF:=Lib.hid hbf
        clear hbf
        obtain ⟨f1,f2,f3,f4,f5,f6,f7⟩:=HBF.out
        go_roundw
        case rel => exact ⟨i + 1,by go_num,by omega,f1,Nat.lt_of_lt_of_le HZ.out (Nat.le_of_eq f3),f6 _ _ _ (Nat.ne_of_lt NB.out) HX.out,⟨21,⟨#[]⟩,0,(some ⟨(World.heap w11).size,0,none⟩),2,2⟩,f4,.inl ⟨g,(.mk 21 ⟨#[]⟩ 0 [n_m,n_k]),_,Nat.le_of_succ_le hgf,HR.out,f5 (.ok nd0 _) HS.out,Nat.le_trans (Nat.succ_le_succ his) MO.out,f7 (fun b h => h.2) ⟨⟨rfl,rfl,rfl,rfl⟩,KN.out⟩⟩⟩
        case measure => simp [intOf];omega
       ·replace HR:=Lib.hid (HR.out.trans (bind_no hr9))
        clear hr9 hq9
        replace HX:=bT HX ht9 NE
        replace HB_m:=bT HB_m ht9 NE_m
        replace HZ:=zT HZ ht9
        replace HT:=tT HT ht9
        replace HS:=Lib.hid hs9
        clear ht9 hs9
        obtain ⟨u0m,u1m,u2m,u3m,g0m,g1m,g2m,g3m,glm⟩:=HB_m.out.f4
        have NE_k:=nE HQ HZ
        have HB_k:=nB w9 x_k
        obtain ⟨o9,ho9⟩:=oN x_k
        replace HX:=bA HX o9
        replace HB_m:=bA HB_m o9
        replace HS:=Lib.hid (HS.out.below (bl _ o9))
        replace HT:=tA HT o9
        replace HZ:=zA HZ o9
        subst ho9
        go_wp2_with fail
        clear u0m u1m u2m u3m g0m g1m g2m g3m glm
        (try rw [← (show (World.alloc w9 (.cells #[.int .i64 x_k.kind,.string x_k.text,.int .i64 x_k.num,.slice x_k.a x_k.len x_k.cap] 24)).heap.size = _ from World.size_alloc _ _)])
        generalize (World.alloc w9 (.cells #[.int .i64 x_k.kind,.string x_k.text,.int .i64 x_k.num,.slice x_k.a x_k.len x_k.cap] 24)) = w13 at *
        have HZ0:=HZ
        have HB0:=HB_m
        obtain ⟨o9,ho9⟩:=oNN x_m x_k
        replace HX:=bA HX o9
        replace HB_m:=bA HB_m o9
        replace HB_k:=bA HB_k o9
        replace HS:=Lib.hid (HS.out.below (bl _ o9))
        replace HT:=tA HT o9
        replace HZ:=zA HZ o9
        subst ho9
        refine (rnode_bad HS.out 21 _ _ _ _).mono ?_
        rintro e w14 ⟨rfl,ht9,hs9⟩
        replace HX:=bT HX ht9 NE
        replace HB_m:=bT HB_m ht9 NE_m
        replace HB_k:=bT HB_k ht9 NE_k
        replace HZ:=zT HZ ht9
        replace HT:=tT HT ht9
        replace HS:=Lib.hid hs9
        clear ht9 hs9
        obtain ⟨u0m,u1m,u2m,u3m,g0m,g1m,g2m,g3m,glm⟩:=HB_m.out.f4
        go_wp2_with fail
        clear u0m u1m u2m u3m g0m g1m g2m g3m glm
        have HBF:=Lib.hid (box_far HE.out HQ.out HT.out HB_m.out NB.out (S:=fun _ => False) (x:=x_m) (n:=nd0) (.int .i64 21) (.string ⟨#[]⟩) (.int .i64 0) (.slice (some ⟨(World.heap w13).size,0,none⟩) 2 2))
        obtain ⟨f1,f2,f3,f4,f5,f6,f7⟩:=HBF.out
        go_roundw
        case rel => exact ⟨i + 1,by go_num,by omega,f1,Nat.lt_of_lt_of_le HZ.out (Nat.le_of_eq f3),f6 _ _ _ (Nat.ne_of_lt NB.out) HX.out,⟨21,⟨#[]⟩,0,some ⟨(World.heap w13).size,0,none⟩,2,2⟩,f4,.inr ⟨_,_,HR.out,f5 (.no _ _) HS.out⟩⟩
        case measure => simp [intOf];omega
     ·rw [if_pos h1] at hr
      have H1:=Lib.hid h1
      clear h1
      have HR:=Lib.hid hr
      clear hr
      obtain ⟨z0,z1,z2,z3,z4,z5,z6,z7,z8,z9,z10,z11,zl⟩:=HS.out.blk.f7
      go_wp2_with fail
      clear z0 z1 z2 z3 z4 z5 z6 z7 z8 z9 z10 z11 zl
      refine (rbegins_y HS.out H1.out).mono ?_
      rintro e w15 ⟨rfl,ht9,hs9⟩
      replace HX:=bT HX ht9 NE
      replace HB_m:=bT HB_m ht9 NE_m
      replace T_m:=nT T_m ht9 NS
      replace HZ:=zT HZ ht9
      replace HT:=tT HT ht9
      replace HS:=Lib.hid hs9
      clear ht9 hs9
      have hlt:=sees_lt H1.out
      go_wp2_with fail
      refine ((ihT g (Nat.le_of_succ_le hgf) E) _ _ HS.out (fun h => HO.out (HR.out.trans (bind_out h)))).mono ?_
      rintro e w16 hq9
      rcases hq9.two (fun h => HO.out (HR.out.trans (bind_out h))) with ⟨n_k,s17,x_k,hr9,rfl,ht9,hs9,hi9⟩ | ⟨c9,p9,x_k,hr9,rfl,ht9,hs9⟩
      ·replace HR:=Lib.hid (HR.out.trans (bind_ok hr9))
       have MO : Hid (s1.i + 1 ≤ s17.i):=by have h:=run_mono _ _ _ _ _ _ _ hr9;simp only [str,step_i] at h;show _ ≤ _;omega
       clear hr9 hq9
       have T_k:=Lib.hid (hi9.weak (S':=(fun b => w.heap.size < b ∧ b ≠ b1)) (fun b hb h => ⟨Nat.lt_of_lt_of_le HZ.out h,Nat.ne_of_gt (Nat.lt_of_lt_of_le HB_m.out.lt h)⟩))
       clear hi9
       replace HX:=bT HX ht9 NE
       replace HB_m:=bT HB_m ht9 NE_m
       replace T_m:=nT T_m ht9 NS
       replace HZ:=zT HZ ht9
       replace HT:=tT HT ht9
       replace HS:=Lib.hid hs9
       clear ht9 hs9
       obtain ⟨u0m,u1m,u2m,u3m,g0m,g1m,g2m,g3m,glm⟩:=HB_m.out.f4
       have NE_k:=nE HQ HZ
       have HB_k:=nB w16 x_k
       obtain ⟨o9,ho9⟩:=oN x_k
       replace HX:=bA HX o9
       replace HB_m:=bA HB_m o9
       replace T_m:=nA T_m o9
       replace T_k:=nA T_k o9
       replace HS:=Lib.hid (HS.out.below (bl _ o9))
       replace HT:=tA HT o9
       replace HZ:=zA HZ o9
       subst ho9
       go_wp2_with fail
       clear u0m u1m u2m u3m g0m g1m g2m g3m glm
       (try rw [← (show (World.alloc w16 (.cells #[.int .i64 x_k.kind,.string x_k.text,.int .i64 x_k.num,.slice x_k.a x_k.len x_k.cap] 24)).heap.size = _ from World.size_alloc _ _)])
       generalize (World.alloc w16 (.cells #[.int .i64 x_k.kind,.string x_k.text,.int .i64 x_k.num,.slice x_k.a x_k.len x_k.cap] 24)) = w18 at *
       have HZ0:=HZ
       have HB0:=HB_m
       obtain ⟨o9,ho9⟩:=oNN x_m x_k
       replace HX:=bA HX o9
       replace HB_m:=bA HB_m o9
       replace HB_k:=bA HB_k o9
       replace T_m:=nA T_m o9
       replace T_k:=nA T_k o9
       replace HS:=Lib.hid (HS.out.below (bl _ o9))
       replace HT:=tA HT o9
       replace HZ:=zA HZ o9
       subst ho9
       obtain ⟨A9,c9,e9,-,hn9⟩:=(OwnN.new w18 0 [x_m,x_k] (by simp) (by simp) (Nat.zero_le _) #[.int .i64 x_m.kind,.string x_m.text,.int .i64 x_m.num,.slice x_m.a x_m.len x_m.cap,.int .i64 x_k.kind,.string x_k.text,.int .i64 x_k.num,.slice x_k.a x_k.len x_k.cap] rfl).nodes (S':=(fun b => w.heap.size < b ∧ b ≠ b1)) (AllN.two T_m.out T_k.out) (fun b h => h) (fun k hk => by cases hk;exact ⟨HZ0.out,Nat.ne_of_gt HB0.out.lt⟩)
       cases e9
       have KN:=Lib.hid hn9
       clear hn9
       refine (rnode_any (r:=.ok nd0 _) 20 _ _ _ _ HS.out).mono ?_
       rintro e w19 ⟨rfl,ht9,hs9⟩
       have hs9 : RGood _ _ _:=hs9 nd0
       replace KN:=Lib.hid (KN.out.kept ht9.size (fun b hb hs => ht9.block b hb (NS.out b hs)) (fun b _ h => h))
       replace HX:=bT HX ht9 NE
       replace HB_m:=bT HB_m ht9 NE_m
       replace HB_k:=bT HB_k ht9 NE_k
       replace T_m:=nT T_m ht9 NS
       replace T_k:=nT T_k ht9 NS
       replace HZ:=zT HZ ht9
       replace HT:=tT HT ht9
       replace HS:=Lib.hid hs9
       clear ht9 hs9
       obtain ⟨u0m,u1m,u2m,u3m,g0m,g1m,g2m,g3m,glm⟩:=HB_m.out.f4
       go_wp2_with fail
       clear u0m u1m u2m u3m g0m g1m g2m g3m glm
       have hbf:=box_far HE.out HQ.out HT.out HB_m.out NB.out (S:=(fun b => w.heap.size < b ∧ b ≠ b1)) (x:=⟨20,⟨#[]⟩,0,(some ⟨(World.heap w18).size,0,none⟩),2,2⟩) (n:=(.mk 20 ⟨#[]⟩ 0 [n_m,n_k])) (.int .i64 20) (.string ⟨#[]⟩) (.int .i64 0) (.slice (some ⟨(World.heap w18).size,0,none⟩) 2 2)
       have HBF:=Lib.hid hbf
       clear hbf
       obtain ⟨f1,f2,f3,f4,f5,f6,f7⟩:=HBF.out
       go_roundw
       case rel => exact ⟨i + 1,by go_num,by omega,f1,Nat.lt_of_lt_of_le HZ.out (Nat.le_of_eq f3),f6 _ _ _ (Nat.ne_of_lt NB.out) HX.out,⟨20,⟨#[]⟩,0,(some ⟨(World.heap w18).size,0,none⟩),2,2⟩,f4,.inl ⟨g,(.mk 20 ⟨#[]⟩ 0 [n_m,n_k]),_,Nat.le_of_succ_le hgf,HR.out,f5 (.ok nd0 _) HS.out,Nat.le_trans (Nat.succ_le_succ his) MO.out,f7 (fun b h => h.2) ⟨⟨rfl,rfl,rfl,rfl⟩,KN.out⟩⟩⟩
       case measure => simp [intOf];omega
      ·replace HR:=Lib.hid (HR.out.trans (bind_no hr9))
       clear hr9 hq9
       replace HX:=bT HX ht9 NE
       replace HB_m:=bT HB_m ht9 NE_m
       replace HZ:=zT HZ ht9
       replace HT:=tT HT ht9
       replace HS:=Lib.hid hs9
       clear ht9 hs9
       obtain ⟨u0m,u1m,u2m,u3m,g0m,g1m,g2m,g3m,glm⟩:=HB_m.out.f4
       have NE_k:=nE HQ HZ
       have HB_k:=nB w16 x_k
       obtain ⟨o9,ho9⟩:=oN x_k
       replace HX:=bA HX o9
       replace HB_m:=bA HB_m o9
       replace HS:=Lib.hid (HS.out.below (bl _ o9))
       replace HT:=tA HT o9
       replace HZ:=zA HZ o9
       subst ho9
       go_wp2_with fail
       clear u0m u1m u2m u3m g0m g1m g2m g3m glm
       (try rw [← (show (World.alloc w16 (.cells #[.int .i64 x_k.kind,.string x_k.text,.int .i64 x_k.num,.slice x_k.a x_k.len x_k.cap] 24)).heap.size = _ from World.size_alloc _ _)])
       generalize (World.alloc w16 (.cells #[.int .i64 x_k.kind,.string x_k.text,.int .i64 x_k.num,.slice x_k.a x_k.len x_k.cap] 24)) = w20 at *
       have HZ0:=HZ
       have HB0:=HB_m
       obtain ⟨o9,ho9⟩:=oNN x_m x_k
       replace HX:=bA HX o9
       replace HB_m:=bA HB_m o9
       replace HB_k:=bA HB_k o9
       replace HS:=Lib.hid (HS.out.below (bl _ o9))
       replace HT:=tA HT o9
       replace HZ:=zA HZ o9
       subst ho9
       refine (rnode_bad HS.out 20 _ _ _ _).mono ?_
       rintro e w21 ⟨rfl,ht9,hs9⟩
       replace HX:=bT HX ht9 NE
       replace HB_m:=bT HB_m ht9 NE_m
       replace HB_k:=bT HB_k ht9 NE_k
       replace HZ:=zT HZ ht9
       replace HT:=tT HT ht9
       replace HS:=Lib.hid hs9
       clear ht9 hs9
       obtain ⟨u0m,u1m,u2m,u3m,g0m,g1m,g2m,g3m,glm⟩:=HB_m.out.f4
       go_wp2_with fail
       clear u0m u1m u2m u3m g0m g1m g2m g3m glm
       have HBF:=Lib.hid (box_far HE.out HQ.out HT.out HB_m.out NB.out (S:=fun _ => False) (x:=x_m) (n:=nd0) (.int .i64 20) (.string ⟨#[]⟩) (.int .i64 0) (.slice (some ⟨(World.heap w20).size,0,none⟩) 2 2))
       obtain ⟨f1,f2,f3,f4,f5,f6,f7⟩:=HBF.out
       go_roundw
       case rel => exact ⟨i + 1,by go_num,by omega,f1,Nat.lt_of_lt_of_le HZ.out (Nat.le_of_eq f3),f6 _ _ _ (Nat.ne_of_lt NB.out) HX.out,⟨20,⟨#[]⟩,0,some ⟨(World.heap w20).size,0,none⟩,2,2⟩,f4,.inr ⟨_,_,HR.out,f5 (.no _ _) HS.out⟩⟩
       case measure => simp [intOf];omega
   ·have HS:=Lib.hid hs
    have HR:=Lib.hid hr
    clear hs hr
    obtain ⟨zi,zd,zm,hq⟩:=HS.out.blk
    obtain ⟨z0,z1,z2,z3,z4,z5,z6,z7,z8,z9,z10,z11,zl⟩:=hq.f7
    have zc:=HS.out.ne
    clear hq
    go_wp2_with fail
    clear z0 z1 z2 z3 z4 z5 z6 z7 z8 z9 z10 z11 zl zc
    refine (rbegins_bad HS.out _).mono ?_
    rintro e w22 ⟨rfl,ht9,hs9⟩
    replace HX:=bT HX ht9 NE
    replace HB_m:=bT HB_m ht9 NE_m
    replace HZ:=zT HZ ht9
    replace HT:=tT HT ht9
    replace HS:=Lib.hid hs9
    clear ht9 hs9
    go_wp2_with fail
    refine (rbegins_bad HS.out _).mono ?_
    rintro e w23 ⟨rfl,ht9,hs9⟩
    replace HX:=bT HX ht9 NE
    replace HB_m:=bT HB_m ht9 NE_m
    replace HZ:=zT HZ ht9
    replace HT:=tT HT ht9
    replace HS:=Lib.hid hs9
    clear ht9 hs9
    obtain ⟨u0X,u1X,u2X,u3X,g0X,g1X,g2X,g3X,glX⟩:=HX.out.f4
    obtain ⟨u0m,u1m,u2m,u3m,g0m,g1m,g2m,g3m,glm⟩:=HB_m.out.f4
    go_wp2_with fail
    clear u0X u1X u2X u3X g0X g1X g2X g3X glX u0m u1m u2m u3m g0m g1m g2m g3m glm
    refine open_post (EndB w E _ _ _) (end_bad HE.out HQ.out HT.out HS.out HX.out (x:=⟨_,_,_,_,_,_⟩)) ?_
    rintro W hE
    obtain ⟨v0,v1,v2,v3,-⟩:=hE.blk.f4
    exact bodyPost_ret (v:=nvA ⟨_,_,_,_,_,_⟩) (by simp [results,Tryz.results121,go_sem,v0,v1,v2,v3]) rfl (hE.done HR.out)
 ·replace HR:=Lib.hid (HR.out.trans (bind_no hr9))
  clear hr9 hq9
  replace HX:=bT HX ht9 NE
  replace HZ:=zT HZ ht9
  replace HT:=tT HT ht9
  replace HS:=Lib.hid hs9
  clear ht9 hs9
  have HZ1:=HZ
  have NE_n:=nE HQ HZ
  have HB_n:=nB w2 x_n
  obtain ⟨o9,ho9⟩:=oN x_n
  replace HX:=bA HX o9
  replace HS:=Lib.hid (HS.out.below (bl _ o9))
  replace HT:=tA HT o9
  replace HZ:=zA HZ o9
  subst ho9
  have HEL:=HS
  go_wp2_with fail
  (try rw [← (show (World.alloc w2 (.cells #[.int .i64 x_n.kind,.string x_n.text,.int .i64 x_n.num,.slice x_n.a x_n.len x_n.cap] 24)).heap.size = _ from World.size_alloc _ _)])
  generalize (World.alloc w2 (.cells #[.int .i64 x_n.kind,.string x_n.text,.int .i64 x_n.num,.slice x_n.a x_n.len x_n.cap] 24)) = w24 at *
  generalize w2.heap.size = b1 at *
  have NB : Hid (w.heap.size < b1):=HZ1.out
  have NE_m:=NE_n
  go_loopw [4] (fun v wr => ∃ i : Nat,v = .int .i64 (i : Int) ∧ i ≤ E.L.length ∧ LInv w E rr .sumL f b1 i wr) (fun v _ => E.L.length + 1 - (intOf v).toNat)
  case atStart => exact ⟨0,rfl,Nat.zero_le _,HT.out,HZ.out,HX.out,x_n,HB_n.out,.inr ⟨_,_,HR.out,HS.out⟩⟩
  case round =>
   clear HT HZ HX HB_n HR HS HEL
   obtain ⟨i,rfl,hi,ht,hz,hx,x_m,hb,hg⟩:=hrel
   have HT:=Lib.hid ht
   have HZ:=Lib.hid hz
   have HX:=Lib.hid hx
   have HB_m:=Lib.hid hb
   clear ht hz hx hb
   have hwi : IntKind.i64.wrap ((i : Int) + 1) = (i : Int) + 1:=IntWalk.i64_in _ (by omega)
   rcases hg with ⟨g,n_m,s1,hgf,hr,hs,his,hn⟩ | ⟨c1,p1,hr,hs⟩
   ·have HS:=Lib.hid hs
    have T_m:=Lib.hid hn
    replace NS : Hid (∀ b,(fun b => w.heap.size < b ∧ b ≠ b1) b → ¬ b = E.Q):=fun b hb => NS.out b hb.1
    cases g with
    | zero => exact absurd (hr.trans rfl) HO.out
    | succ g =>
     simp only [run,nodeP,tx_add,tx_sub,tx_nil] at hr
     clear hs hn
     cases h1 : seesP E.L ⟨#[43]⟩ s1
     ·rw [if_neg (by rw [h1];decide)] at hr
      have H1:=Lib.hid h1
      clear h1
      cases h2 : seesP E.L ⟨#[45]⟩ s1
      ·rw [if_neg (by rw [h2];decide)] at hr
       have H2:=Lib.hid h2
       clear h2
       have HR:=Lib.hid hr
       clear hr
       obtain ⟨z0,z1,z2,z3,z4,z5,z6,z7,z8,z9,z10,z11,zl⟩:=HS.out.blk.f7
       go_wp2_with fail
       clear z0 z1 z2 z3 z4 z5 z6 z7 z8 z9 z10 z11 zl
       refine (rbegins_n HS.out H1.out).mono ?_
       rintro e w25 ⟨rfl,ht9,hs9⟩
       replace HX:=bT HX ht9 NE
       replace HB_m:=bT HB_m ht9 NE_m
       replace T_m:=nT T_m ht9 NS
       replace HZ:=zT HZ ht9
       replace HT:=tT HT ht9
       replace HS:=Lib.hid hs9
       clear ht9 hs9
       go_wp2_with fail
       refine (rbegins_n HS.out H2.out).mono ?_
       rintro e w26 ⟨rfl,ht9,hs9⟩
       replace HX:=bT HX ht9 NE
       replace HB_m:=bT HB_m ht9 NE_m
       replace T_m:=nT T_m ht9 NS
       replace HZ:=zT HZ ht9
       replace HT:=tT HT ht9
       replace HS:=Lib.hid hs9
       clear ht9 hs9
       obtain ⟨u0X,u1X,u2X,u3X,g0X,g1X,g2X,g3X,glX⟩:=HX.out.f4
       obtain ⟨u0m,u1m,u2m,u3m,g0m,g1m,g2m,g3m,glm⟩:=HB_m.out.f4
       go_wp2_with fail
       clear u0X u1X u2X u3X g0X g1X g2X g3X glX u0m u1m u2m u3m g0m g1m g2m g3m glm
       refine open_post (EndG w E _ x_m n_m) (end_good HE.out HQ.out HT.out HS.out HX.out (x:=x_m) (n:=n_m) T_m.out (S:=(fun b => w.heap.size < b ∧ b ≠ b1)) (fun b h => h.1)) ?_
       rintro W hE
       obtain ⟨v0,v1,v2,v3,-⟩:=hE.blk.f4
       exact bodyPost_ret (v:=nvA x_m) (by simp [results,Tryz.results121,go_sem,v0,v1,v2,v3]) rfl (hE.done HR.out)
      ·rw [if_pos h2] at hr
       have H2:=Lib.hid h2
       clear h2
       have HR:=Lib.hid hr
       clear hr
       obtain ⟨z0,z1,z2,z3,z4,z5,z6,z7,z8,z9,z10,z11,zl⟩:=HS.out.blk.f7
       go_wp2_with fail
       clear z0 z1 z2 z3 z4 z5 z6 z7 z8 z9 z10 z11 zl
       refine (rbegins_n HS.out H1.out).mono ?_
       rintro e w27 ⟨rfl,ht9,hs9⟩
       replace HX:=bT HX ht9 NE
       replace HB_m:=bT HB_m ht9 NE_m
       replace T_m:=nT T_m ht9 NS
       replace HZ:=zT HZ ht9
       replace HT:=tT HT ht9
       replace HS:=Lib.hid hs9
       clear ht9 hs9
       go_wp2_with fail
       refine (rbegins_y HS.out H2.out).mono ?_
       rintro e w28 ⟨rfl,ht9,hs9⟩
       replace HX:=bT HX ht9 NE
       replace HB_m:=bT HB_m ht9 NE_m
       replace T_m:=nT T_m ht9 NS
       replace HZ:=zT HZ ht9
       replace HT:=tT HT ht9
       replace HS:=Lib.hid hs9
       clear ht9 hs9
       have hlt:=sees_lt H2.out
       go_wp2_with fail
       refine ((ihT g (Nat.le_of_succ_le hgf) E) _ _ HS.out (fun h => HO.out (HR.out.trans (bind_out h)))).mono ?_
       rintro e w29 hq9
       rcases hq9.two (fun h => HO.out (HR.out.trans (bind_out h))) with ⟨n_k,s30,x_k,hr9,rfl,ht9,hs9,hi9⟩ | ⟨c9,p9,x_k,hr9,rfl,ht9,hs9⟩
       ·replace HR:=Lib.hid (HR.out.trans (bind_ok hr9))
        have MO : Hid (s1.i + 1 ≤ s30.i):=by have h:=run_mono _ _ _ _ _ _ _ hr9;simp only [str,step_i] at h;show _ ≤ _;omega
        clear hr9 hq9
        have T_k:=Lib.hid (hi9.weak (S':=(fun b => w.heap.size < b ∧ b ≠ b1)) (fun b hb h => ⟨Nat.lt_of_lt_of_le HZ.out h,Nat.ne_of_gt (Nat.lt_of_lt_of_le HB_m.out.lt h)⟩))
        clear hi9
        replace HX:=bT HX ht9 NE
        replace HB_m:=bT HB_m ht9 NE_m
        replace T_m:=nT T_m ht9 NS
        replace HZ:=zT HZ ht9
        replace HT:=tT HT ht9
        replace HS:=Lib.hid hs9
        clear ht9 hs9
        obtain ⟨u0m,u1m,u2m,u3m,g0m,g1m,g2m,g3m,glm⟩:=HB_m.out.f4
        have NE_k:=nE HQ HZ
        have HB_k:=nB w29 x_k
        obtain ⟨o9,ho9⟩:=oN x_k
        replace HX:=bA HX o9
        replace HB_m:=bA HB_m o9
        replace T_m:=nA T_m o9
        replace T_k:=nA T_k o9
        replace HS:=Lib.hid (HS.out.below (bl _ o9))
        replace HT:=tA HT o9
        replace HZ:=zA HZ o9
        subst ho9
        go_wp2_with fail
        clear u0m u1m u2m u3m g0m g1m g2m g3m glm
        (try rw [← (show (World.alloc w29 (.cells #[.int .i64 x_k.kind,.string x_k.text,.int .i64 x_k.num,.slice x_k.a x_k.len x_k.cap] 24)).heap.size = _ from World.size_alloc _ _)])
        generalize (World.alloc w29 (.cells #[.int .i64 x_k.kind,.string x_k.text,.int .i64 x_k.num,.slice x_k.a x_k.len x_k.cap] 24)) = w31 at *
        have HZ0:=HZ
        have HB0:=HB_m
        obtain ⟨o9,ho9⟩:=oNN x_m x_k
        replace HX:=bA HX o9
        replace HB_m:=bA HB_m o9
        replace HB_k:=bA HB_k o9
        replace T_m:=nA T_m o9
        replace T_k:=nA T_k o9
        replace HS:=Lib.hid (HS.out.below (bl _ o9))
        replace HT:=tA HT o9
        replace HZ:=zA HZ o9
        subst ho9
        obtain ⟨A9,c9,e9,-,hn9⟩:=(OwnN.new w31 0 [x_m,x_k] (by simp) (by simp) (Nat.zero_le _) #[.int .i64 x_m.kind,.string x_m.text,.int .i64 x_m.num,.slice x_m.a x_m.len x_m.cap,.int .i64 x_k.kind,.string x_k.text,.int .i64 x_k.num,.slice x_k.a x_k.len x_k.cap] rfl).nodes (S':=(fun b => w.heap.size < b ∧ b ≠ b1)) (AllN.two T_m.out T_k.out) (fun b h => h) (fun k hk => by cases hk;exact ⟨HZ0.out,Nat.ne_of_gt HB0.out.lt⟩)
        cases e9
        have KN:=Lib.hid hn9
        clear hn9
        refine (rnode_any (r:=.ok nd0 _) 21 _ _ _ _ HS.out).mono ?_
        rintro e w32 ⟨rfl,ht9,hs9⟩
        have hs9 : RGood _ _ _:=hs9 nd0
        replace KN:=Lib.hid (KN.out.kept ht9.size (fun b hb hs => ht9.block b hb (NS.out b hs)) (fun b _ h => h))
        replace HX:=bT HX ht9 NE
        replace HB_m:=bT HB_m ht9 NE_m
        replace HB_k:=bT HB_k ht9 NE_k
        replace T_m:=nT T_m ht9 NS
        replace T_k:=nT T_k ht9 NS
        replace HZ:=zT HZ ht9
        replace HT:=tT HT ht9
        replace HS:=Lib.hid hs9
        clear ht9 hs9
        obtain ⟨u0m,u1m,u2m,u3m,g0m,g1m,g2m,g3m,glm⟩:=HB_m.out.f4
        go_wp2_with fail
        clear u0m u1m u2m u3m g0m g1m g2m g3m glm
        have hbf:=box_far HE.out HQ.out HT.out HB_m.out NB.out (S:=(fun b => w.heap.size < b ∧ b ≠ b1)) (x:=⟨21,⟨#[]⟩,0,(some ⟨(World.heap w31).size,0,none⟩),2,2⟩) (n:=(.mk 21 ⟨#[]⟩ 0 [n_m,n_k])) (.int .i64 21) (.string ⟨#[]⟩) (.int .i64 0) (.slice (some ⟨(World.heap w31).size,0,none⟩) 2 2)
        have HBF:=Lib.hid hbf
        clear hbf
        obtain ⟨f1,f2,f3,f4,f5,f6,f7⟩:=HBF.out
        go_roundw
        case rel => exact ⟨i + 1,by go_num,by omega,f1,Nat.lt_of_lt_of_le HZ.out (Nat.le_of_eq f3),f6 _ _ _ (Nat.ne_of_lt NB.out) HX.out,⟨21,⟨#[]⟩,0,(some ⟨(World.heap w31).size,0,none⟩),2,2⟩,f4,.inl ⟨g,(.mk 21 ⟨#[]⟩ 0 [n_m,n_k]),_,Nat.le_of_succ_le hgf,HR.out,f5 (.ok nd0 _) HS.out,Nat.le_trans (Nat.succ_le_succ his) MO.out,f7 (fun b h => h.2) ⟨⟨rfl,rfl,rfl,rfl⟩,KN.out⟩⟩⟩
        case measure => simp [intOf];omega
       ·replace HR:=Lib.hid (HR.out.trans (bind_no hr9))
        clear hr9 hq9
        replace HX:=bT HX ht9 NE
        replace HB_m:=bT HB_m ht9 NE_m
        replace HZ:=zT HZ ht9
        replace HT:=tT HT ht9
        replace HS:=Lib.hid hs9
        clear ht9 hs9
        obtain ⟨u0m,u1m,u2m,u3m,g0m,g1m,g2m,g3m,glm⟩:=HB_m.out.f4
        have NE_k:=nE HQ HZ
        have HB_k:=nB w29 x_k
        obtain ⟨o9,ho9⟩:=oN x_k
        replace HX:=bA HX o9
        replace HB_m:=bA HB_m o9
        replace HS:=Lib.hid (HS.out.below (bl _ o9))
        replace HT:=tA HT o9
        replace HZ:=zA HZ o9
        subst ho9
        go_wp2_with fail
        clear u0m u1m u2m u3m g0m g1m g2m g3m glm
        (try rw [← (show (World.alloc w29 (.cells #[.int .i64 x_k.kind,.string x_k.text,.int .i64 x_k.num,.slice x_k.a x_k.len x_k.cap] 24)).heap.size = _ from World.size_alloc _ _)])
        generalize (World.alloc w29 (.cells #[.int .i64 x_k.kind,.string x_k.text,.int .i64 x_k.num,.slice x_k.a x_k.len x_k.cap] 24)) = w33 at *
        have HZ0:=HZ
        have HB0:=HB_m
        obtain ⟨o9,ho9⟩:=oNN x_m x_k
        replace HX:=bA HX o9
        replace HB_m:=bA HB_m o9
        replace HB_k:=bA HB_k o9
        replace HS:=Lib.hid (HS.out.below (bl _ o9))
        replace HT:=tA HT o9
        replace HZ:=zA HZ o9
        subst ho9
        refine (rnode_bad HS.out 21 _ _ _ _).mono ?_
        rintro e w34 ⟨rfl,ht9,hs9⟩
        replace HX:=bT HX ht9 NE
        replace HB_m:=bT HB_m ht9 NE_m
        replace HB_k:=bT HB_k ht9 NE_k
        replace HZ:=zT HZ ht9
        replace HT:=tT HT ht9
        replace HS:=Lib.hid hs9
        clear ht9 hs9
        obtain ⟨u0m,u1m,u2m,u3m,g0m,g1m,g2m,g3m,glm⟩:=HB_m.out.f4
        go_wp2_with fail
        clear u0m u1m u2m u3m g0m g1m g2m g3m glm
        have HBF:=Lib.hid (box_far HE.out HQ.out HT.out HB_m.out NB.out (S:=fun _ => False) (x:=x_m) (n:=nd0) (.int .i64 21) (.string ⟨#[]⟩) (.int .i64 0) (.slice (some ⟨(World.heap w33).size,0,none⟩) 2 2))
        obtain ⟨f1,f2,f3,f4,f5,f6,f7⟩:=HBF.out
        go_roundw
        case rel => exact ⟨i + 1,by go_num,by omega,f1,Nat.lt_of_lt_of_le HZ.out (Nat.le_of_eq f3),f6 _ _ _ (Nat.ne_of_lt NB.out) HX.out,⟨21,⟨#[]⟩,0,some ⟨(World.heap w33).size,0,none⟩,2,2⟩,f4,.inr ⟨_,_,HR.out,f5 (.no _ _) HS.out⟩⟩
        case measure => simp [intOf];omega
     ·rw [if_pos h1] at hr
      have H1:=Lib.hid h1
      clear h1
      have HR:=Lib.hid hr
      clear hr
      obtain ⟨z0,z1,z2,z3,z4,z5,z6,z7,z8,z9,z10,z11,zl⟩:=HS.out.blk.f7
      go_wp2_with fail
      clear z0 z1 z2 z3 z4 z5 z6 z7 z8 z9 z10 z11 zl
      refine (rbegins_y HS.out H1.out).mono ?_
      rintro e w35 ⟨rfl,ht9,hs9⟩
      replace HX:=bT HX ht9 NE
      replace HB_m:=bT HB_m ht9 NE_m
      replace T_m:=nT T_m ht9 NS
      replace HZ:=zT HZ ht9
      replace HT:=tT HT ht9
      replace HS:=Lib.hid hs9
      clear ht9 hs9
      have hlt:=sees_lt H1.out
      go_wp2_with fail
      refine ((ihT g (Nat.le_of_succ_le hgf) E) _ _ HS.out (fun h => HO.out (HR.out.trans (bind_out h)))).mono ?_
      rintro e w36 hq9
      rcases hq9.two (fun h => HO.out (HR.out.trans (bind_out h))) with ⟨n_k,s37,x_k,hr9,rfl,ht9,hs9,hi9⟩ | ⟨c9,p9,x_k,hr9,rfl,ht9,hs9⟩
      ·replace HR:=Lib.hid (HR.out.trans (bind_ok hr9))
       have MO : Hid (s1.i + 1 ≤ s37.i):=by have h:=run_mono _ _ _ _ _ _ _ hr9;simp only [str,step_i] at h;show _ ≤ _;omega
       clear hr9 hq9
       have T_k:=Lib.hid (hi9.weak (S':=(fun b => w.heap.size < b ∧ b ≠ b1)) (fun b hb h => ⟨Nat.lt_of_lt_of_le HZ.out h,Nat.ne_of_gt (Nat.lt_of_lt_of_le HB_m.out.lt h)⟩))
       clear hi9
       replace HX:=bT HX ht9 NE
       replace HB_m:=bT HB_m ht9 NE_m
       replace T_m:=nT T_m ht9 NS
       replace HZ:=zT HZ ht9
       replace HT:=tT HT ht9
       replace HS:=Lib.hid hs9
       clear ht9 hs9
       obtain ⟨u0m,u1m,u2m,u3m,g0m,g1m,g2m,g3m,glm⟩:=HB_m.out.f4
       have NE_k:=nE HQ HZ
       have HB_k:=nB w36 x_k
       obtain ⟨o9,ho9⟩:=oN x_k
       replace HX:=bA HX o9
       replace HB_m:=bA HB_m o9
       replace T_m:=nA T_m o9
       replace T_k:=nA T_k o9
       replace HS:=Lib.hid (HS.out.below (bl _ o9))
       replace HT:=tA HT o9
       replace HZ:=zA HZ o9
       subst ho9
       go_wp2_with fail
       clear u0m u1m u2m u3m g0m g1m g2m g3m glm
       (try rw [← (show (World.alloc w36 (.cells #[.int .i64 x_k.kind,.string x_k.text,.int .i64 x_k.num,.slice x_k.a x_k.len x_k.cap] 24)).heap.size = _ from World.size_alloc _ _)])
       generalize (World.alloc w36 (.cells #[.int .i64 x_k.kind,.string x_k.text,.int .i64 x_k.num,.slice x_k.a x_k.len x_k.cap] 24)) = w38 at *
       have HZ0:=HZ
       have HB0:=HB_m
       obtain ⟨o9,ho9⟩:=oNN x_m x_k
       replace HX:=bA HX o9
       replace HB_m:=bA HB_m o9
       replace HB_k:=bA HB_k o9
       replace T_m:=nA T_m o9
       replace T_k:=nA T_k o9
       replace HS:=Lib.hid (HS.out.below (bl _ o9))
       replace HT:=tA HT o9
       replace HZ:=zA HZ o9
       subst ho9
       obtain ⟨A9,c9,e9,-,hn9⟩:=(OwnN.new w38 0 [x_m,x_k] (by simp) (by simp) (Nat.zero_le _) #[.int .i64 x_m.kind,.string x_m.text,.int .i64 x_m.num,.slice x_m.a x_m.len x_m.cap,.int .i64 x_k.kind,.string x_k.text,.int .i64 x_k.num,.slice x_k.a x_k.len x_k.cap] rfl).nodes (S':=(fun b => w.heap.size < b ∧ b ≠ b1)) (AllN.two T_m.out T_k.out) (fun b h => h) (fun k hk => by cases hk;exact ⟨HZ0.out,Nat.ne_of_gt HB0.out.lt⟩)
       cases e9
       have KN:=Lib.hid hn9
       clear hn9
       refine (rnode_any (r:=.ok nd0 _) 20 _ _ _ _ HS.out).mono ?_
       rintro e w39 ⟨rfl,ht9,hs9⟩
       have hs9 : RGood _ _ _:=hs9 nd0
       replace KN:=Lib.hid (KN.out.kept ht9.size (fun b hb hs => ht9.block b hb (NS.out b hs)) (fun b _ h => h))
       replace HX:=bT HX ht9 NE
       replace HB_m:=bT HB_m ht9 NE_m
       replace HB_k:=bT HB_k ht9 NE_k
       replace T_m:=nT T_m ht9 NS
       replace T_k:=nT T_k ht9 NS
       replace HZ:=zT HZ ht9
       replace HT:=tT HT ht9
       replace HS:=Lib.hid hs9
       clear ht9 hs9
       obtain ⟨u0m,u1m,u2m,u3m,g0m,g1m,g2m,g3m,glm⟩:=HB_m.out.f4
       go_wp2_with fail
       clear u0m u1m u2m u3m g0m g1m g2m g3m glm
       have hbf:=box_far HE.out HQ.out HT.out HB_m.out NB.out (S:=(fun b => w.heap.size < b ∧ b ≠ b1)) (x:=⟨20,⟨#[]⟩,0,(some ⟨(World.heap w38).size,0,none⟩),2,2⟩) (n:=(.mk 20 ⟨#[]⟩ 0 [n_m,n_k])) (.int .i64 20) (.string ⟨#[]⟩) (.int .i64 0) (.slice (some ⟨(World.heap w38).size,0,none⟩) 2 2)
       have HBF:=Lib.hid hbf
       clear hbf
       obtain ⟨f1,f2,f3,f4,f5,f6,f7⟩:=HBF.out
       go_roundw
       case rel => exact ⟨i + 1,by go_num,by omega,f1,Nat.lt_of_lt_of_le HZ.out (Nat.le_of_eq f3),f6 _ _ _ (Nat.ne_of_lt NB.out) HX.out,⟨20,⟨#[]⟩,0,(some ⟨(World.heap w38).size,0,none⟩),2,2⟩,f4,.inl ⟨g,(.mk 20 ⟨#[]⟩ 0 [n_m,n_k]),_,Nat.le_of_succ_le hgf,HR.out,f5 (.ok nd0 _) HS.out,Nat.le_trans (Nat.succ_le_succ his) MO.out,f7 (fun b h => h.2) ⟨⟨rfl,rfl,rfl,rfl⟩,KN.out⟩⟩⟩
       case measure => simp [intOf];omega
      ·replace HR:=Lib.hid (HR.out.trans (bind_no hr9))
       clear hr9 hq9
       replace HX:=bT HX ht9 NE
       replace HB_m:=bT HB_m ht9 NE_m
       replace HZ:=zT HZ ht9
       replace HT:=tT HT ht9
       replace HS:=Lib.hid hs9
       clear ht9 hs9
       obtain ⟨u0m,u1m,u2m,u3m,g0m,g1m,g2m,g3m,glm⟩:=HB_m.out.f4
       have NE_k:=nE HQ HZ
       have HB_k:=nB w36 x_k
       obtain ⟨o9,ho9⟩:=oN x_k
       replace HX:=bA HX o9
       replace HB_m:=bA HB_m o9
       replace HS:=Lib.hid (HS.out.below (bl _ o9))
       replace HT:=tA HT o9
       replace HZ:=zA HZ o9
       subst ho9
       go_wp2_with fail
       clear u0m u1m u2m u3m g0m g1m g2m g3m glm
       (try rw [← (show (World.alloc w36 (.cells #[.int .i64 x_k.kind,.string x_k.text,.int .i64 x_k.num,.slice x_k.a x_k.len x_k.cap] 24)).heap.size = _ from World.size_alloc _ _)])
       generalize (World.alloc w36 (.cells #[.int .i64 x_k.kind,.string x_k.text,.int .i64 x_k.num,.slice x_k.a x_k.len x_k.cap] 24)) = w40 at *
       have HZ0:=HZ
       have HB0:=HB_m
       obtain ⟨o9,ho9⟩:=oNN x_m x_k
       replace HX:=bA HX o9
       replace HB_m:=bA HB_m o9
       replace HB_k:=bA HB_k o9
       replace HS:=Lib.hid (HS.out.below (bl _ o9))
       replace HT:=tA HT o9
       replace HZ:=zA HZ o9
       subst ho9
       refine (rnode_bad HS.out 20 _ _ _ _).mono ?_
       rintro e w41 ⟨rfl,ht9,hs9⟩
       replace HX:=bT HX ht9 NE
       replace HB_m:=bT HB_m ht9 NE_m
       replace HB_k:=bT HB_k ht9 NE_k
       replace HZ:=zT HZ ht9
       replace HT:=tT HT ht9
       replace HS:=Lib.hid hs9
       clear ht9 hs9
       obtain ⟨u0m,u1m,u2m,u3m,g0m,g1m,g2m,g3m,glm⟩:=HB_m.out.f4
       go_wp2_with fail
       clear u0m u1m u2m u3m g0m g1m g2m g3m glm
       have HBF:=Lib.hid (box_far HE.out HQ.out HT.out HB_m.out NB.out (S:=fun _ => False) (x:=x_m) (n:=nd0) (.int .i64 20) (.string ⟨#[]⟩) (.int .i64 0) (.slice (some ⟨(World.heap w40).size,0,none⟩) 2 2))
       obtain ⟨f1,f2,f3,f4,f5,f6,f7⟩:=HBF.out
       go_roundw
       case rel => exact ⟨i + 1,by go_num,by omega,f1,Nat.lt_of_lt_of_le HZ.out (Nat.le_of_eq f3),f6 _ _ _ (Nat.ne_of_lt NB.out) HX.out,⟨20,⟨#[]⟩,0,some ⟨(World.heap w40).size,0,none⟩,2,2⟩,f4,.inr ⟨_,_,HR.out,f5 (.no _ _) HS.out⟩⟩
       case measure => simp [intOf];omega
   ·have HS:=Lib.hid hs
    have HR:=Lib.hid hr
    clear hs hr
    obtain ⟨zi,zd,zm,hq⟩:=HS.out.blk
    obtain ⟨z0,z1,z2,z3,z4,z5,z6,z7,z8,z9,z10,z11,zl⟩:=hq.f7
    have zc:=HS.out.ne
    clear hq
    go_wp2_with fail
    clear z0 z1 z2 z3 z4 z5 z6 z7 z8 z9 z10 z11 zl zc
    refine (rbegins_bad HS.out _).mono ?_
    rintro e w42 ⟨rfl,ht9,hs9⟩
    replace HX:=bT HX ht9 NE
    replace HB_m:=bT HB_m ht9 NE_m
    replace HZ:=zT HZ ht9
    replace HT:=tT HT ht9
    replace HS:=Lib.hid hs9
    clear ht9 hs9
    go_wp2_with fail
    refine (rbegins_bad HS.out _).mono ?_
    rintro e w43 ⟨rfl,ht9,hs9⟩
    replace HX:=bT HX ht9 NE
    replace HB_m:=bT HB_m ht9 NE_m
    replace HZ:=zT HZ ht9
    replace HT:=tT HT ht9
    replace HS:=Lib.hid hs9
    clear ht9 hs9
    obtain ⟨u0X,u1X,u2X,u3X,g0X,g1X,g2X,g3X,glX⟩:=HX.out.f4
    obtain ⟨u0m,u1m,u2m,u3m,g0m,g1m,g2m,g3m,glm⟩:=HB_m.out.f4
    go_wp2_with fail
    clear u0X u1X u2X u3X g0X g1X g2X g3X glX u0m u1m u2m u3m g0m g1m g2m g3m glm
    refine open_post (EndB w E _ _ _) (end_bad HE.out HQ.out HT.out HS.out HX.out (x:=⟨_,_,_,_,_,_⟩)) ?_
    rintro W hE
    obtain ⟨v0,v1,v2,v3,-⟩:=hE.blk.f4
    exact bodyPost_ret (v:=nvA ⟨_,_,_,_,_,_⟩) (by simp [results,Tryz.results121,go_sem,v0,v1,v2,v3]) rfl (hE.done HR.out)
end Go.Proofs.YtbpldfmmlgkfnaaGreatDoor
