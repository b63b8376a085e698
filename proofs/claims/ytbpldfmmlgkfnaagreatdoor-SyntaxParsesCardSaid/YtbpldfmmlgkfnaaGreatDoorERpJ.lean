/- The document's parser: statements that set, that do. Conditions: what expressions and blocks do. -/
import Derived.Test.YtbpldfmmlgkfnaaGreatDoorEMemZ
import Derived.Test.YtbpldfmmlgkfnaaGreatDoorERpI
namespace Go.Proofs.YtbpldfmmlgkfnaaGreatDoor
open Go.RowKit
set_option linter.unusedVariables false

set_option maxRecDepth 100000 in
set_option maxHeartbeats 1600000 in
theorem rstmt_set {f : Nat} (ihX : RCall f .expr 113) (bdX : RFlat 113) (ihB : RCall f .block 70) (bdB : RFlat 70) {E : Env} {s : PS} {w : World} (h : RGood w E s) (hout : run E.L E.e (f + 1) .stmt s ≠ .out) (b0 : seesP E.L ⟨#[118,97,114]⟩ s = false) (b1 : seesP E.L ⟨#[105,102]⟩ s = false) (b2 : seesP E.L ⟨#[119,104,105,108,101]⟩ s = false) (b3 : seesP E.L ⟨#[114,101,116,117,114,110]⟩ s = false) (b4 : seesP E.L ⟨#[112,114,105,110,116]⟩ s = false) (b5 : seesP E.L ⟨#[102,111,114,107]⟩ s = false) (b6 : seesP E.L ⟨#[119,97,105,116]⟩ s = false) (b7 : seesP E.L ⟨#[115,105,103,110,97,108]⟩ s = false) (b8 : seesP E.L ⟨#[115,119,97,112]⟩ s = false) (a1 : isP E.L 1 s = true) (a2 : sameT (textP E.L (stepP s)) (tx "=") = true) (hn : s.i + 1 < E.L.length) : Calls Tryz.prog 98 #[.pointer (some ⟨E.Q,0,none⟩)] w (REnd E (run E.L E.e (f + 1) .stmt s) w):=by
 have hE : RAt w E (.ok nd0 s):=h
 have HO:=Lib.hid hout
 generalize hrr : run E.L E.e (f + 1) .stmt s = rr at *
 have hr : rr = withP E.L E.e f 8 s:=by
  rw [← hrr]
  simp only [run,tx_var,tx_if,tx_while,tx_return,tx_print,tx_fork,tx_wait,tx_signal,tx_swap,b0,b1,b2,b3,b4,b5,b6,b7,b8,a1,a2,and_self,if_true,if_false,Bool.false_eq_true]
  all_goals rfl
 have HR:=Lib.hid hr
 clear hrr hr hout
 have HE:=Lib.hid hE.env
 have HQ:=Lib.hid hE.old
 have NE : Hid (¬ w.heap.size = E.Q):=by have:=hE.old;show ¬ _;omega
 have NS : Hid (∀ b,(fun b => w.heap.size < b) b → ¬ b = E.Q):=fun b hb e => by have h1:=hE.old;have h2 : w.heap.size < b:=hb;omega
 obtain ⟨o9,ho9⟩:=oZ
 have hb0:=bl w o9
 have HS:=Lib.hid (h.below hb0)
 have HT:=Lib.hid (Turned.of_below (fun b => b = E.Q) hb0)
 have HX:=zB w
 have HZ:=zN w o9
 subst ho9
 clear h hE hb0
 go_enter Tryz.func98,Tryz.ntmps98
 have B0:=Lib.hid b0
 have B1:=Lib.hid b1
 have B2:=Lib.hid b2
 have B3:=Lib.hid b3
 have B4:=Lib.hid b4
 have B5:=Lib.hid b5
 have B6:=Lib.hid b6
 have B7:=Lib.hid b7
 have B8:=Lib.hid b8
 have A1:=Lib.hid a1
 have A2:=Lib.hid a2
 have hlt:=is_lt A1.out
 have ht : textP E.L (stepP s) = E.L[s.i + 1].text:=by unfold textP;rw [show (stepP s).i = s.i + 1 from rfl,List.getElem?_eq_getElem hn]
 have he : (E.L[s.i + 1].text.toList == [61]) = true:=by have h:=A2.out;unfold sameT at h;rw [ht,tx_eq] at h;rwa [show (⟨#[61]⟩ : ByteArray).toList = [61] by rw [ByteArray.toList_eq]] at h
 clear ht
 clear b0 b1 b2 b3 b4 b5 b6 b7 b8 a1 a2
 go_wp2_with fail
 generalize (w.alloc (.cells #[.int .i64 0,.string ⟨#[]⟩,.int .i64 0,.slice none 0 0] 24)) = w1 at *
 refine (rbegins_n HS.out B0.out).mono ?_
 rintro e w2 ⟨rfl,ht9,hs9⟩
 replace HX:=bT HX ht9 NE
 replace HZ:=zT HZ ht9
 replace HT:=tT HT ht9
 replace HS:=Lib.hid hs9
 clear ht9 hs9
 go_wp2_with fail
 refine (rbegins_n HS.out B1.out).mono ?_
 rintro e w3 ⟨rfl,ht9,hs9⟩
 replace HX:=bT HX ht9 NE
 replace HZ:=zT HZ ht9
 replace HT:=tT HT ht9
 replace HS:=Lib.hid hs9
 clear ht9 hs9
 go_wp2_with fail
 refine (rbegins_n HS.out B2.out).mono ?_
 rintro e w4 ⟨rfl,ht9,hs9⟩
 replace HX:=bT HX ht9 NE
 replace HZ:=zT HZ ht9
 replace HT:=tT HT ht9
 replace HS:=Lib.hid hs9
 clear ht9 hs9
 go_wp2_with fail
 refine (rbegins_n HS.out B3.out).mono ?_
 rintro e w5 ⟨rfl,ht9,hs9⟩
 replace HX:=bT HX ht9 NE
 replace HZ:=zT HZ ht9
 replace HT:=tT HT ht9
 replace HS:=Lib.hid hs9
 clear ht9 hs9
 go_wp2_with fail
 refine (rbegins_n HS.out B4.out).mono ?_
 rintro e w6 ⟨rfl,ht9,hs9⟩
 replace HX:=bT HX ht9 NE
 replace HZ:=zT HZ ht9
 replace HT:=tT HT ht9
 replace HS:=Lib.hid hs9
 clear ht9 hs9
 go_wp2_with fail
 refine (rbegins_n HS.out B5.out).mono ?_
 rintro e w7 ⟨rfl,ht9,hs9⟩
 replace HX:=bT HX ht9 NE
 replace HZ:=zT HZ ht9
 replace HT:=tT HT ht9
 replace HS:=Lib.hid hs9
 clear ht9 hs9
 go_wp2_with fail
 refine (rbegins_n HS.out B6.out).mono ?_
 rintro e w8 ⟨rfl,ht9,hs9⟩
 replace HX:=bT HX ht9 NE
 replace HZ:=zT HZ ht9
 replace HT:=tT HT ht9
 replace HS:=Lib.hid hs9
 clear ht9 hs9
 go_wp2_with fail
 refine (rbegins_n HS.out B7.out).mono ?_
 rintro e w9 ⟨rfl,ht9,hs9⟩
 replace HX:=bT HX ht9 NE
 replace HZ:=zT HZ ht9
 replace HT:=tT HT ht9
 replace HS:=Lib.hid hs9
 clear ht9 hs9
 go_wp2_with fail
 refine (rbegins_n HS.out B8.out).mono ?_
 rintro e w10 ⟨rfl,ht9,hs9⟩
 replace HX:=bT HX ht9 NE
 replace HZ:=zT HZ ht9
 replace HT:=tT HT ht9
 replace HS:=Lib.hid hs9
 clear ht9 hs9
 go_wp2_with fail
 refine (ris_is HS.out A1.out).mono ?_
 rintro e w11 ⟨rfl,hb9⟩
 have ht9:=Turned.of_below (fun b => b = E.Q) hb9
 have hs9:=HS.out.below hb9
 clear hb9
 replace HX:=bT HX ht9 NE
 replace HZ:=zT HZ ht9
 replace HT:=tT HT ht9
 replace HS:=Lib.hid hs9
 clear ht9 hs9
 obtain ⟨z0,z1,z2,z3,z4,z5,z6,z7,z8,z9,z10,z11,zl⟩:=HS.out.blk.f7
 have hn2 : (s.i : Int) + 1 < (E.L.length : Int):=by omega
 have hfew:=HS.out.env.few
 have hw1 : IntKind.i64.wrap ((s.i : Int) + 1) = (s.i : Int) + 1:=IntWalk.i64_in _ (by omega)
 obtain ⟨tb,to,hA,htl,hc⟩:=HS.out.env.toks (by omega)
 obtain ⟨y1,y2,y3⟩:=hc (s.i + 1) hn
 rw [hA] at z0
 clear hc hA
 go_wp2_with fail
 go_quiet (fail)
 clear z0 z1 z2 z3 z4 z5 z6 z7 z8 z9 z10 z11 zl y1 y2 y3
 have hb9:=belowN (World.heap w11).size w11 nq
 have ht9:=Turned.of_below (fun b => b = E.Q) hb9
 have hs9:=HS.out.below hb9
 clear hb9
 replace HX:=bT HX ht9 NE
 replace HZ:=zT HZ ht9
 replace HT:=tT HT ht9
 replace HS:=Lib.hid hs9
 clear ht9 hs9
 replace HR:=Lib.hid (HR.out.trans (res_id _).symm)
 go_wp2_with fail
 generalize (World.drewN w11 nq) = w12 at *
 refine ((fun (s : PS) (w : World) (h : RGood w E s) ho => rwith_any ihX bdX 8 h ho) _ _ HS.out (fun h => HO.out (HR.out.trans (bind_out h)))).mono ?_
 rintro e w13 hq9
 rcases hq9.two (fun h => HO.out (HR.out.trans (bind_out h))) with ⟨n_k,s14,x_k,hr9,rfl,ht9,hs9,hi9⟩ | ⟨c9,p9,x_k,hr9,rfl,ht9,hs9⟩
 ·replace HR:=Lib.hid (HR.out.trans (bind_ok hr9))
  clear hr9 hq9
  have T_k:=Lib.hid (hi9.weak (S':=(fun b => w.heap.size < b)) (fun b hb h => Nat.lt_of_lt_of_le HZ.out h))
  clear hi9
  replace HX:=bT HX ht9 NE
  replace HZ:=zT HZ ht9
  replace HT:=tT HT ht9
  replace HS:=Lib.hid hs9
  clear ht9 hs9
  obtain ⟨u0X,u1X,u2X,u3X,g0X,g1X,g2X,g3X,glX⟩:=HX.out.f4
  go_wp2_with fail
  clear u0X u1X u2X u3X g0X g1X g2X g3X glX
  refine open_post (EndG w E _ x_k n_k) (end_good HE.out HQ.out HT.out HS.out HX.out (x:=x_k) (n:=n_k) T_k.out (S:=(fun b => w.heap.size < b)) (fun b h => h)) ?_
  rintro W hE
  obtain ⟨v0,v1,v2,v3,-⟩:=hE.blk.f4
  exact bodyPost_ret (v:=nvA x_k) (by simp [results,Tryz.results98,go_sem,v0,v1,v2,v3]) rfl (hE.done HR.out)
 ·replace HR:=Lib.hid (HR.out.trans (bind_no hr9))
  clear hr9 hq9
  replace HX:=bT HX ht9 NE
  replace HZ:=zT HZ ht9
  replace HT:=tT HT ht9
  replace HS:=Lib.hid hs9
  clear ht9 hs9
  obtain ⟨u0X,u1X,u2X,u3X,g0X,g1X,g2X,g3X,glX⟩:=HX.out.f4
  go_wp2_with fail
  clear u0X u1X u2X u3X g0X g1X g2X g3X glX
  refine open_post (EndB w E _ _ _) (end_bad HE.out HQ.out HT.out HS.out HX.out (x:=⟨_,_,_,_,_,_⟩)) ?_
  rintro W hE
  obtain ⟨v0,v1,v2,v3,-⟩:=hE.blk.f4
  exact bodyPost_ret (v:=nvA ⟨_,_,_,_,_,_⟩) (by simp [results,Tryz.results98,go_sem,v0,v1,v2,v3]) rfl (hE.done HR.out)
set_option maxRecDepth 100000 in
set_option maxHeartbeats 1600000 in
theorem rstmt_do1 {f : Nat} (ihX : RCall f .expr 113) (bdX : RFlat 113) (ihB : RCall f .block 70) (bdB : RFlat 70) {E : Env} {s : PS} {w : World} (h : RGood w E s) (hout : run E.L E.e (f + 1) .stmt s ≠ .out) (b0 : seesP E.L ⟨#[118,97,114]⟩ s = false) (b1 : seesP E.L ⟨#[105,102]⟩ s = false) (b2 : seesP E.L ⟨#[119,104,105,108,101]⟩ s = false) (b3 : seesP E.L ⟨#[114,101,116,117,114,110]⟩ s = false) (b4 : seesP E.L ⟨#[112,114,105,110,116]⟩ s = false) (b5 : seesP E.L ⟨#[102,111,114,107]⟩ s = false) (b6 : seesP E.L ⟨#[119,97,105,116]⟩ s = false) (b7 : seesP E.L ⟨#[115,105,103,110,97,108]⟩ s = false) (b8 : seesP E.L ⟨#[115,119,97,112]⟩ s = false) (a1 : isP E.L 1 s = true) (a2 : sameT (textP E.L (stepP s)) (tx "=") = false) (hn : s.i + 1 < E.L.length) : Calls Tryz.prog 98 #[.pointer (some ⟨E.Q,0,none⟩)] w (REnd E (run E.L E.e (f + 1) .stmt s) w):=by
 have hE : RAt w E (.ok nd0 s):=h
 have HO:=Lib.hid hout
 generalize hrr : run E.L E.e (f + 1) .stmt s = rr at *
 have hr : rr = (run E.L E.e f .expr s).bind fun k s => (wantP E.L E.e ⟨#[59]⟩ s).bind fun _ s => .ok (.mk 17 ⟨#[]⟩ 0 [k]) ⟨s.i,s.dep,s.many + 1⟩:=by
  rw [← hrr]
  simp only [run,tx_var,tx_if,tx_while,tx_return,tx_print,tx_fork,tx_wait,tx_signal,tx_swap,b0,b1,b2,b3,b4,b5,b6,b7,b8,a1,a2,and_false,tx_semi,tx_nil,nodeP,if_false,Bool.false_eq_true]
  all_goals rfl
 have HR:=Lib.hid hr
 clear hrr hr hout
 have HE:=Lib.hid hE.env
 have HQ:=Lib.hid hE.old
 have NE : Hid (¬ w.heap.size = E.Q):=by have:=hE.old;show ¬ _;omega
 have NS : Hid (∀ b,(fun b => w.heap.size < b) b → ¬ b = E.Q):=fun b hb e => by have h1:=hE.old;have h2 : w.heap.size < b:=hb;omega
 obtain ⟨o9,ho9⟩:=oZ
 have hb0:=bl w o9
 have HS:=Lib.hid (h.below hb0)
 have HT:=Lib.hid (Turned.of_below (fun b => b = E.Q) hb0)
 have HX:=zB w
 have HZ:=zN w o9
 subst ho9
 clear h hE hb0
 go_enter Tryz.func98,Tryz.ntmps98
 have B0:=Lib.hid b0
 have B1:=Lib.hid b1
 have B2:=Lib.hid b2
 have B3:=Lib.hid b3
 have B4:=Lib.hid b4
 have B5:=Lib.hid b5
 have B6:=Lib.hid b6
 have B7:=Lib.hid b7
 have B8:=Lib.hid b8
 have A1:=Lib.hid a1
 have A2:=Lib.hid a2
 have hlt:=is_lt A1.out
 have ht : textP E.L (stepP s) = E.L[s.i + 1].text:=by unfold textP;rw [show (stepP s).i = s.i + 1 from rfl,List.getElem?_eq_getElem hn]
 have he : (E.L[s.i + 1].text.toList == [61]) = false:=by have h:=A2.out;unfold sameT at h;rw [ht,tx_eq] at h;rwa [show (⟨#[61]⟩ : ByteArray).toList = [61] by rw [ByteArray.toList_eq]] at h
 clear ht
 clear b0 b1 b2 b3 b4 b5 b6 b7 b8 a1 a2
 go_wp2_with fail
 generalize (w.alloc (.cells #[.int .i64 0,.string ⟨#[]⟩,.int .i64 0,.slice none 0 0] 24)) = w1 at *
 refine (rbegins_n HS.out B0.out).mono ?_
 rintro e w2 ⟨rfl,ht9,hs9⟩
 replace HX:=bT HX ht9 NE
 replace HZ:=zT HZ ht9
 replace HT:=tT HT ht9
 replace HS:=Lib.hid hs9
 clear ht9 hs9
 go_wp2_with fail
 refine (rbegins_n HS.out B1.out).mono ?_
 rintro e w3 ⟨rfl,ht9,hs9⟩
 replace HX:=bT HX ht9 NE
 replace HZ:=zT HZ ht9
 replace HT:=tT HT ht9
 replace HS:=Lib.hid hs9
 clear ht9 hs9
 go_wp2_with fail
 refine (rbegins_n HS.out B2.out).mono ?_
 rintro e w4 ⟨rfl,ht9,hs9⟩
 replace HX:=bT HX ht9 NE
 replace HZ:=zT HZ ht9
 replace HT:=tT HT ht9
 replace HS:=Lib.hid hs9
 clear ht9 hs9
 go_wp2_with fail
 refine (rbegins_n HS.out B3.out).mono ?_
 rintro e w5 ⟨rfl,ht9,hs9⟩
 replace HX:=bT HX ht9 NE
 replace HZ:=zT HZ ht9
 replace HT:=tT HT ht9
 replace HS:=Lib.hid hs9
 clear ht9 hs9
 go_wp2_with fail
 refine (rbegins_n HS.out B4.out).mono ?_
 rintro e w6 ⟨rfl,ht9,hs9⟩
 replace HX:=bT HX ht9 NE
 replace HZ:=zT HZ ht9
 replace HT:=tT HT ht9
 replace HS:=Lib.hid hs9
 clear ht9 hs9
 go_wp2_with fail
 refine (rbegins_n HS.out B5.out).mono ?_
 rintro e w7 ⟨rfl,ht9,hs9⟩
 replace HX:=bT HX ht9 NE
 replace HZ:=zT HZ ht9
 replace HT:=tT HT ht9
 replace HS:=Lib.hid hs9
 clear ht9 hs9
 go_wp2_with fail
 refine (rbegins_n HS.out B6.out).mono ?_
 rintro e w8 ⟨rfl,ht9,hs9⟩
 replace HX:=bT HX ht9 NE
 replace HZ:=zT HZ ht9
 replace HT:=tT HT ht9
 replace HS:=Lib.hid hs9
 clear ht9 hs9
 go_wp2_with fail
 refine (rbegins_n HS.out B7.out).mono ?_
 rintro e w9 ⟨rfl,ht9,hs9⟩
 replace HX:=bT HX ht9 NE
 replace HZ:=zT HZ ht9
 replace HT:=tT HT ht9
 replace HS:=Lib.hid hs9
 clear ht9 hs9
 go_wp2_with fail
 refine (rbegins_n HS.out B8.out).mono ?_
 rintro e w10 ⟨rfl,ht9,hs9⟩
 replace HX:=bT HX ht9 NE
 replace HZ:=zT HZ ht9
 replace HT:=tT HT ht9
 replace HS:=Lib.hid hs9
 clear ht9 hs9
 go_wp2_with fail
 refine (ris_is HS.out A1.out).mono ?_
 rintro e w11 ⟨rfl,hb9⟩
 have ht9:=Turned.of_below (fun b => b = E.Q) hb9
 have hs9:=HS.out.below hb9
 clear hb9
 replace HX:=bT HX ht9 NE
 replace HZ:=zT HZ ht9
 replace HT:=tT HT ht9
 replace HS:=Lib.hid hs9
 clear ht9 hs9
 obtain ⟨z0,z1,z2,z3,z4,z5,z6,z7,z8,z9,z10,z11,zl⟩:=HS.out.blk.f7
 have hn2 : (s.i : Int) + 1 < (E.L.length : Int):=by omega
 have hfew:=HS.out.env.few
 have hw1 : IntKind.i64.wrap ((s.i : Int) + 1) = (s.i : Int) + 1:=IntWalk.i64_in _ (by omega)
 obtain ⟨tb,to,hA,htl,hc⟩:=HS.out.env.toks (by omega)
 obtain ⟨y1,y2,y3⟩:=hc (s.i + 1) hn
 rw [hA] at z0
 clear hc hA
 go_wp2_with fail
 go_quiet (fail)
 clear z0 z1 z2 z3 z4 z5 z6 z7 z8 z9 z10 z11 zl y1 y2 y3
 have hb9:=belowN (World.heap w11).size w11 nq
 have ht9:=Turned.of_below (fun b => b = E.Q) hb9
 have hs9:=HS.out.below hb9
 clear hb9
 replace HX:=bT HX ht9 NE
 replace HZ:=zT HZ ht9
 replace HT:=tT HT ht9
 replace HS:=Lib.hid hs9
 clear ht9 hs9
 go_wp2_with fail
 generalize (World.drewN w11 nq) = w12 at *
 refine ((ihX E) _ _ HS.out (fun h => HO.out (HR.out.trans (bind_out h)))).mono ?_
 rintro e w13 hq9
 rcases hq9.two (fun h => HO.out (HR.out.trans (bind_out h))) with ⟨n_k,s14,x_k,hr9,rfl,ht9,hs9,hi9⟩ | ⟨c9,p9,x_k,hr9,rfl,ht9,hs9⟩
 ·replace HR:=Lib.hid (HR.out.trans (bind_ok hr9))
  clear hr9 hq9
  have T_k:=Lib.hid (hi9.weak (S':=(fun b => w.heap.size < b)) (fun b hb h => Nat.lt_of_lt_of_le HZ.out h))
  clear hi9
  replace HX:=bT HX ht9 NE
  replace HZ:=zT HZ ht9
  replace HT:=tT HT ht9
  replace HS:=Lib.hid hs9
  clear ht9 hs9
  have NE_k:=nE HQ HZ
  have HB_k:=nB w13 x_k
  obtain ⟨o9,ho9⟩:=oN x_k
  replace HX:=bA HX o9
  replace T_k:=nA T_k o9
  replace HS:=Lib.hid (HS.out.below (bl _ o9))
  replace HT:=tA HT o9
  replace HZ:=zA HZ o9
  subst ho9
  go_wp2_with fail
  (try rw [← (show (World.alloc w13 (.cells #[.int .i64 x_k.kind,.string x_k.text,.int .i64 x_k.num,.slice x_k.a x_k.len x_k.cap] 24)).heap.size = _ from World.size_alloc _ _)])
  generalize (World.alloc w13 (.cells #[.int .i64 x_k.kind,.string x_k.text,.int .i64 x_k.num,.slice x_k.a x_k.len x_k.cap] 24)) = w15 at *
  refine (rwant_two HS.out _).mono ?_
  rintro e w16 ⟨rfl,ht9,(⟨m9,s17,hr9,hs9⟩ | ⟨c9,p9,hr9,hs9⟩)⟩
  ·replace HR:=Lib.hid (HR.out.trans (bind_ok hr9))
   clear hr9
   replace HX:=bT HX ht9 NE
   replace HB_k:=bT HB_k ht9 NE_k
   replace T_k:=nT T_k ht9 NS
   replace HZ:=zT HZ ht9
   replace HT:=tT HT ht9
   replace HS:=Lib.hid hs9
   clear ht9 hs9
   obtain ⟨u0k,u1k,u2k,u3k,g0k,g1k,g2k,g3k,glk⟩:=HB_k.out.f4
   go_wp2_with fail
   clear u0k u1k u2k u3k g0k g1k g2k g3k glk
   have HZ0:=HZ
   obtain ⟨o9,ho9⟩:=oN x_k
   replace HX:=bA HX o9
   replace HB_k:=bA HB_k o9
   replace T_k:=nA T_k o9
   replace HS:=Lib.hid (HS.out.below (bl _ o9))
   replace HT:=tA HT o9
   replace HZ:=zA HZ o9
   subst ho9
   obtain ⟨A9,c9,e9,-,hn9⟩:=(OwnN.new w16 0 [x_k] (by simp) (by simp) (Nat.zero_le _) #[.int .i64 x_k.kind,.string x_k.text,.int .i64 x_k.num,.slice x_k.a x_k.len x_k.cap] rfl).nodes (S':=(fun b => w.heap.size < b)) (AllN.one T_k.out) (fun b h => h) (fun k hk => by cases hk;exact (show w.heap.size < (World.heap w16).size from HZ0.out))
   cases e9
   have KN:=Lib.hid hn9
   clear hn9
   refine (rnode_any (r:=.ok nd0 _) 17 _ _ _ _ HS.out).mono ?_
   rintro e w18 ⟨rfl,ht9,hs9⟩
   have hs9 : RGood _ _ _:=hs9 nd0
   replace KN:=Lib.hid (KN.out.kept ht9.size (fun b hb hs => ht9.block b hb (NS.out b hs)) (fun b _ h => h))
   replace HX:=bT HX ht9 NE
   replace HB_k:=bT HB_k ht9 NE_k
   replace T_k:=nT T_k ht9 NS
   replace HZ:=zT HZ ht9
   replace HT:=tT HT ht9
   replace HS:=Lib.hid hs9
   clear ht9 hs9
   obtain ⟨u0X,u1X,u2X,u3X,g0X,g1X,g2X,g3X,glX⟩:=HX.out.f4
   go_wp2_with fail
   clear u0X u1X u2X u3X g0X g1X g2X g3X glX
   refine open_post (EndG w E _ ⟨17,⟨#[]⟩,0,(some ⟨(World.heap w16).size,0,none⟩),1,1⟩ (.mk 17 ⟨#[]⟩ 0 [n_k])) (end_good HE.out HQ.out HT.out HS.out HX.out (x:=⟨17,⟨#[]⟩,0,(some ⟨(World.heap w16).size,0,none⟩),1,1⟩) (n:=(.mk 17 ⟨#[]⟩ 0 [n_k])) ⟨⟨rfl,rfl,rfl,rfl⟩,KN.out⟩ (S:=(fun b => w.heap.size < b)) (fun b h => h)) ?_
   rintro W hE
   obtain ⟨v0,v1,v2,v3,-⟩:=hE.blk.f4
   exact bodyPost_ret (v:=nvA ⟨17,⟨#[]⟩,0,(some ⟨(World.heap w16).size,0,none⟩),1,1⟩) (by simp [results,Tryz.results98,go_sem,v0,v1,v2,v3]) rfl (hE.done HR.out)
  ·replace HR:=Lib.hid (HR.out.trans (bind_no hr9))
   clear hr9
   replace HX:=bT HX ht9 NE
   replace HB_k:=bT HB_k ht9 NE_k
   replace HZ:=zT HZ ht9
   replace HT:=tT HT ht9
   replace HS:=Lib.hid hs9
   clear ht9 hs9
   obtain ⟨u0k,u1k,u2k,u3k,g0k,g1k,g2k,g3k,glk⟩:=HB_k.out.f4
   go_wp2_with fail
   clear u0k u1k u2k u3k g0k g1k g2k g3k glk
   have HZ0:=HZ
   obtain ⟨o9,ho9⟩:=oN x_k
   replace HX:=bA HX o9
   replace HB_k:=bA HB_k o9
   replace HS:=Lib.hid (HS.out.below (bl _ o9))
   replace HT:=tA HT o9
   replace HZ:=zA HZ o9
   subst ho9
   refine (rnode_bad HS.out 17 _ _ _ _).mono ?_
   rintro e w19 ⟨rfl,ht9,hs9⟩
   replace HX:=bT HX ht9 NE
   replace HB_k:=bT HB_k ht9 NE_k
   replace HZ:=zT HZ ht9
   replace HT:=tT HT ht9
   replace HS:=Lib.hid hs9
   clear ht9 hs9
   obtain ⟨u0X,u1X,u2X,u3X,g0X,g1X,g2X,g3X,glX⟩:=HX.out.f4
   go_wp2_with fail
   clear u0X u1X u2X u3X g0X g1X g2X g3X glX
   refine open_post (EndB w E _ _ _) (end_bad HE.out HQ.out HT.out HS.out HX.out (x:=⟨_,_,_,_,_,_⟩)) ?_
   rintro W hE
   obtain ⟨v0,v1,v2,v3,-⟩:=hE.blk.f4
   exact bodyPost_ret (v:=nvA ⟨_,_,_,_,_,_⟩) (by simp [results,Tryz.results98,go_sem,v0,v1,v2,v3]) rfl (hE.done HR.out)
 ·replace HR:=Lib.hid (HR.out.trans (bind_no hr9))
  clear hr9 hq9
  replace HX:=bT HX ht9 NE
  replace HZ:=zT HZ ht9
  replace HT:=tT HT ht9
  replace HS:=Lib.hid hs9
  clear ht9 hs9
  have NE_k:=nE HQ HZ
  have HB_k:=nB w13 x_k
  obtain ⟨o9,ho9⟩:=oN x_k
  replace HX:=bA HX o9
  replace HS:=Lib.hid (HS.out.below (bl _ o9))
  replace HT:=tA HT o9
  replace HZ:=zA HZ o9
  subst ho9
  go_wp2_with fail
  (try rw [← (show (World.alloc w13 (.cells #[.int .i64 x_k.kind,.string x_k.text,.int .i64 x_k.num,.slice x_k.a x_k.len x_k.cap] 24)).heap.size = _ from World.size_alloc _ _)])
  generalize (World.alloc w13 (.cells #[.int .i64 x_k.kind,.string x_k.text,.int .i64 x_k.num,.slice x_k.a x_k.len x_k.cap] 24)) = w20 at *
  refine (rwant_bad HS.out _).mono ?_
  rintro e w21 ⟨rfl,ht9,hs9⟩
  replace HX:=bT HX ht9 NE
  replace HB_k:=bT HB_k ht9 NE_k
  replace HZ:=zT HZ ht9
  replace HT:=tT HT ht9
  replace HS:=Lib.hid hs9
  clear ht9 hs9
  obtain ⟨u0k,u1k,u2k,u3k,g0k,g1k,g2k,g3k,glk⟩:=HB_k.out.f4
  go_wp2_with fail
  clear u0k u1k u2k u3k g0k g1k g2k g3k glk
  have HZ0:=HZ
  obtain ⟨o9,ho9⟩:=oN x_k
  replace HX:=bA HX o9
  replace HB_k:=bA HB_k o9
  replace HS:=Lib.hid (HS.out.below (bl _ o9))
  replace HT:=tA HT o9
  replace HZ:=zA HZ o9
  subst ho9
  refine (rnode_bad HS.out 17 _ _ _ _).mono ?_
  rintro e w22 ⟨rfl,ht9,hs9⟩
  replace HX:=bT HX ht9 NE
  replace HB_k:=bT HB_k ht9 NE_k
  replace HZ:=zT HZ ht9
  replace HT:=tT HT ht9
  replace HS:=Lib.hid hs9
  clear ht9 hs9
  obtain ⟨u0X,u1X,u2X,u3X,g0X,g1X,g2X,g3X,glX⟩:=HX.out.f4
  go_wp2_with fail
  clear u0X u1X u2X u3X g0X g1X g2X g3X glX
  refine open_post (EndB w E _ _ _) (end_bad HE.out HQ.out HT.out HS.out HX.out (x:=⟨_,_,_,_,_,_⟩)) ?_
  rintro W hE
  obtain ⟨v0,v1,v2,v3,-⟩:=hE.blk.f4
  exact bodyPost_ret (v:=nvA ⟨_,_,_,_,_,_⟩) (by simp [results,Tryz.results98,go_sem,v0,v1,v2,v3]) rfl (hE.done HR.out)
set_option maxRecDepth 100000 in
set_option maxHeartbeats 1600000 in
theorem rstmt_do2 {f : Nat} (ihX : RCall f .expr 113) (bdX : RFlat 113) (ihB : RCall f .block 70) (bdB : RFlat 70) {E : Env} {s : PS} {w : World} (h : RGood w E s) (hout : run E.L E.e (f + 1) .stmt s ≠ .out) (b0 : seesP E.L ⟨#[118,97,114]⟩ s = false) (b1 : seesP E.L ⟨#[105,102]⟩ s = false) (b2 : seesP E.L ⟨#[119,104,105,108,101]⟩ s = false) (b3 : seesP E.L ⟨#[114,101,116,117,114,110]⟩ s = false) (b4 : seesP E.L ⟨#[112,114,105,110,116]⟩ s = false) (b5 : seesP E.L ⟨#[102,111,114,107]⟩ s = false) (b6 : seesP E.L ⟨#[119,97,105,116]⟩ s = false) (b7 : seesP E.L ⟨#[115,105,103,110,97,108]⟩ s = false) (b8 : seesP E.L ⟨#[115,119,97,112]⟩ s = false) (a1 : isP E.L 1 s = true) (a2 : sameT (textP E.L (stepP s)) (tx "=") = false) (hn : ¬ s.i + 1 < E.L.length) : Calls Tryz.prog 98 #[.pointer (some ⟨E.Q,0,none⟩)] w (REnd E (run E.L E.e (f + 1) .stmt s) w):=by
 have hE : RAt w E (.ok nd0 s):=h
 have HO:=Lib.hid hout
 generalize hrr : run E.L E.e (f + 1) .stmt s = rr at *
 have hr : rr = (run E.L E.e f .expr s).bind fun k s => (wantP E.L E.e ⟨#[59]⟩ s).bind fun _ s => .ok (.mk 17 ⟨#[]⟩ 0 [k]) ⟨s.i,s.dep,s.many + 1⟩:=by
  rw [← hrr]
  simp only [run,tx_var,tx_if,tx_while,tx_return,tx_print,tx_fork,tx_wait,tx_signal,tx_swap,b0,b1,b2,b3,b4,b5,b6,b7,b8,a1,a2,and_false,tx_semi,tx_nil,nodeP,if_false,Bool.false_eq_true]
  all_goals rfl
 have HR:=Lib.hid hr
 clear hrr hr hout
 have HE:=Lib.hid hE.env
 have HQ:=Lib.hid hE.old
 have NE : Hid (¬ w.heap.size = E.Q):=by have:=hE.old;show ¬ _;omega
 have NS : Hid (∀ b,(fun b => w.heap.size < b) b → ¬ b = E.Q):=fun b hb e => by have h1:=hE.old;have h2 : w.heap.size < b:=hb;omega
 obtain ⟨o9,ho9⟩:=oZ
 have hb0:=bl w o9
 have HS:=Lib.hid (h.below hb0)
 have HT:=Lib.hid (Turned.of_below (fun b => b = E.Q) hb0)
 have HX:=zB w
 have HZ:=zN w o9
 subst ho9
 clear h hE hb0
 go_enter Tryz.func98,Tryz.ntmps98
 have B0:=Lib.hid b0
 have B1:=Lib.hid b1
 have B2:=Lib.hid b2
 have B3:=Lib.hid b3
 have B4:=Lib.hid b4
 have B5:=Lib.hid b5
 have B6:=Lib.hid b6
 have B7:=Lib.hid b7
 have B8:=Lib.hid b8
 have A1:=Lib.hid a1
 have A2:=Lib.hid a2
 have hlt:=is_lt A1.out
 clear b0 b1 b2 b3 b4 b5 b6 b7 b8 a1 a2
 go_wp2_with fail
 generalize (w.alloc (.cells #[.int .i64 0,.string ⟨#[]⟩,.int .i64 0,.slice none 0 0] 24)) = w1 at *
 refine (rbegins_n HS.out B0.out).mono ?_
 rintro e w2 ⟨rfl,ht9,hs9⟩
 replace HX:=bT HX ht9 NE
 replace HZ:=zT HZ ht9
 replace HT:=tT HT ht9
 replace HS:=Lib.hid hs9
 clear ht9 hs9
 go_wp2_with fail
 refine (rbegins_n HS.out B1.out).mono ?_
 rintro e w3 ⟨rfl,ht9,hs9⟩
 replace HX:=bT HX ht9 NE
 replace HZ:=zT HZ ht9
 replace HT:=tT HT ht9
 replace HS:=Lib.hid hs9
 clear ht9 hs9
 go_wp2_with fail
 refine (rbegins_n HS.out B2.out).mono ?_
 rintro e w4 ⟨rfl,ht9,hs9⟩
 replace HX:=bT HX ht9 NE
 replace HZ:=zT HZ ht9
 replace HT:=tT HT ht9
 replace HS:=Lib.hid hs9
 clear ht9 hs9
 go_wp2_with fail
 refine (rbegins_n HS.out B3.out).mono ?_
 rintro e w5 ⟨rfl,ht9,hs9⟩
 replace HX:=bT HX ht9 NE
 replace HZ:=zT HZ ht9
 replace HT:=tT HT ht9
 replace HS:=Lib.hid hs9
 clear ht9 hs9
 go_wp2_with fail
 refine (rbegins_n HS.out B4.out).mono ?_
 rintro e w6 ⟨rfl,ht9,hs9⟩
 replace HX:=bT HX ht9 NE
 replace HZ:=zT HZ ht9
 replace HT:=tT HT ht9
 replace HS:=Lib.hid hs9
 clear ht9 hs9
 go_wp2_with fail
 refine (rbegins_n HS.out B5.out).mono ?_
 rintro e w7 ⟨rfl,ht9,hs9⟩
 replace HX:=bT HX ht9 NE
 replace HZ:=zT HZ ht9
 replace HT:=tT HT ht9
 replace HS:=Lib.hid hs9
 clear ht9 hs9
 go_wp2_with fail
 refine (rbegins_n HS.out B6.out).mono ?_
 rintro e w8 ⟨rfl,ht9,hs9⟩
 replace HX:=bT HX ht9 NE
 replace HZ:=zT HZ ht9
 replace HT:=tT HT ht9
 replace HS:=Lib.hid hs9
 clear ht9 hs9
 go_wp2_with fail
 refine (rbegins_n HS.out B7.out).mono ?_
 rintro e w9 ⟨rfl,ht9,hs9⟩
 replace HX:=bT HX ht9 NE
 replace HZ:=zT HZ ht9
 replace HT:=tT HT ht9
 replace HS:=Lib.hid hs9
 clear ht9 hs9
 go_wp2_with fail
 refine (rbegins_n HS.out B8.out).mono ?_
 rintro e w10 ⟨rfl,ht9,hs9⟩
 replace HX:=bT HX ht9 NE
 replace HZ:=zT HZ ht9
 replace HT:=tT HT ht9
 replace HS:=Lib.hid hs9
 clear ht9 hs9
 go_wp2_with fail
 refine (ris_is HS.out A1.out).mono ?_
 rintro e w11 ⟨rfl,hb9⟩
 have ht9:=Turned.of_below (fun b => b = E.Q) hb9
 have hs9:=HS.out.below hb9
 clear hb9
 replace HX:=bT HX ht9 NE
 replace HZ:=zT HZ ht9
 replace HT:=tT HT ht9
 replace HS:=Lib.hid hs9
 clear ht9 hs9
 obtain ⟨z0,z1,z2,z3,z4,z5,z6,z7,z8,z9,z10,z11,zl⟩:=HS.out.blk.f7
 have hn2 : decide ((s.i : Int) + 1 < (E.L.length : Int)) = false:=decide_eq_false (by omega)
 have hfew:=HS.out.env.few
 have hw1 : IntKind.i64.wrap ((s.i : Int) + 1) = (s.i : Int) + 1:=IntWalk.i64_in _ (by omega)
 go_wp2_with fail
 go_quiet (fail)
 clear z0 z1 z2 z3 z4 z5 z6 z7 z8 z9 z10 z11 zl
 have hb9:=belowN (World.heap w11).size w11 nq
 have ht9:=Turned.of_below (fun b => b = E.Q) hb9
 have hs9:=HS.out.below hb9
 clear hb9
 replace HX:=bT HX ht9 NE
 replace HZ:=zT HZ ht9
 replace HT:=tT HT ht9
 replace HS:=Lib.hid hs9
 clear ht9 hs9
 go_wp2_with fail
 generalize (World.drewN w11 nq) = w12 at *
 refine ((ihX E) _ _ HS.out (fun h => HO.out (HR.out.trans (bind_out h)))).mono ?_
 rintro e w13 hq9
 rcases hq9.two (fun h => HO.out (HR.out.trans (bind_out h))) with ⟨n_k,s14,x_k,hr9,rfl,ht9,hs9,hi9⟩ | ⟨c9,p9,x_k,hr9,rfl,ht9,hs9⟩
 ·replace HR:=Lib.hid (HR.out.trans (bind_ok hr9))
  clear hr9 hq9
  have T_k:=Lib.hid (hi9.weak (S':=(fun b => w.heap.size < b)) (fun b hb h => Nat.lt_of_lt_of_le HZ.out h))
  clear hi9
  replace HX:=bT HX ht9 NE
  replace HZ:=zT HZ ht9
  replace HT:=tT HT ht9
  replace HS:=Lib.hid hs9
  clear ht9 hs9
  have NE_k:=nE HQ HZ
  have HB_k:=nB w13 x_k
  obtain ⟨o9,ho9⟩:=oN x_k
  replace HX:=bA HX o9
  replace T_k:=nA T_k o9
  replace HS:=Lib.hid (HS.out.below (bl _ o9))
  replace HT:=tA HT o9
  replace HZ:=zA HZ o9
  subst ho9
  go_wp2_with fail
  (try rw [← (show (World.alloc w13 (.cells #[.int .i64 x_k.kind,.string x_k.text,.int .i64 x_k.num,.slice x_k.a x_k.len x_k.cap] 24)).heap.size = _ from World.size_alloc _ _)])
  generalize (World.alloc w13 (.cells #[.int .i64 x_k.kind,.string x_k.text,.int .i64 x_k.num,.slice x_k.a x_k.len x_k.cap] 24)) = w15 at *
  refine (rwant_two HS.out _).mono ?_
  rintro e w16 ⟨rfl,ht9,(⟨m9,s17,hr9,hs9⟩ | ⟨c9,p9,hr9,hs9⟩)⟩
  ·replace HR:=Lib.hid (HR.out.trans (bind_ok hr9))
   clear hr9
   replace HX:=bT HX ht9 NE
   replace HB_k:=bT HB_k ht9 NE_k
   replace T_k:=nT T_k ht9 NS
   replace HZ:=zT HZ ht9
   replace HT:=tT HT ht9
   replace HS:=Lib.hid hs9
   clear ht9 hs9
   obtain ⟨u0k,u1k,u2k,u3k,g0k,g1k,g2k,g3k,glk⟩:=HB_k.out.f4
   go_wp2_with fail
   clear u0k u1k u2k u3k g0k g1k g2k g3k glk
   have HZ0:=HZ
   obtain ⟨o9,ho9⟩:=oN x_k
   replace HX:=bA HX o9
   replace HB_k:=bA HB_k o9
   replace T_k:=nA T_k o9
   replace HS:=Lib.hid (HS.out.below (bl _ o9))
   replace HT:=tA HT o9
   replace HZ:=zA HZ o9
   subst ho9
   obtain ⟨A9,c9,e9,-,hn9⟩:=(OwnN.new w16 0 [x_k] (by simp) (by simp) (Nat.zero_le _) #[.int .i64 x_k.kind,.string x_k.text,.int .i64 x_k.num,.slice x_k.a x_k.len x_k.cap] rfl).nodes (S':=(fun b => w.heap.size < b)) (AllN.one T_k.out) (fun b h => h) (fun k hk => by cases hk;exact (show w.heap.size < (World.heap w16).size from HZ0.out))
   cases e9
   have KN:=Lib.hid hn9
   clear hn9
   refine (rnode_any (r:=.ok nd0 _) 17 _ _ _ _ HS.out).mono ?_
   rintro e w18 ⟨rfl,ht9,hs9⟩
   have hs9 : RGood _ _ _:=hs9 nd0
   replace KN:=Lib.hid (KN.out.kept ht9.size (fun b hb hs => ht9.block b hb (NS.out b hs)) (fun b _ h => h))
   replace HX:=bT HX ht9 NE
   replace HB_k:=bT HB_k ht9 NE_k
   replace T_k:=nT T_k ht9 NS
   replace HZ:=zT HZ ht9
   replace HT:=tT HT ht9
   replace HS:=Lib.hid hs9
   clear ht9 hs9
   obtain ⟨u0X,u1X,u2X,u3X,g0X,g1X,g2X,g3X,glX⟩:=HX.out.f4
   go_wp2_with fail
   clear u0X u1X u2X u3X g0X g1X g2X g3X glX
   refine open_post (EndG w E _ ⟨17,⟨#[]⟩,0,(some ⟨(World.heap w16).size,0,none⟩),1,1⟩ (.mk 17 ⟨#[]⟩ 0 [n_k])) (end_good HE.out HQ.out HT.out HS.out HX.out (x:=⟨17,⟨#[]⟩,0,(some ⟨(World.heap w16).size,0,none⟩),1,1⟩) (n:=(.mk 17 ⟨#[]⟩ 0 [n_k])) ⟨⟨rfl,rfl,rfl,rfl⟩,KN.out⟩ (S:=(fun b => w.heap.size < b)) (fun b h => h)) ?_
   rintro W hE
   obtain ⟨v0,v1,v2,v3,-⟩:=hE.blk.f4
   exact bodyPost_ret (v:=nvA ⟨17,⟨#[]⟩,0,(some ⟨(World.heap w16).size,0,none⟩),1,1⟩) (by simp [results,Tryz.results98,go_sem,v0,v1,v2,v3]) rfl (hE.done HR.out)
  ·replace HR:=Lib.hid (HR.out.trans (bind_no hr9))
   clear hr9
   replace HX:=bT HX ht9 NE
   replace HB_k:=bT HB_k ht9 NE_k
   replace HZ:=zT HZ ht9
   replace HT:=tT HT ht9
   replace HS:=Lib.hid hs9
   clear ht9 hs9
   obtain ⟨u0k,u1k,u2k,u3k,g0k,g1k,g2k,g3k,glk⟩:=HB_k.out.f4
   go_wp2_with fail
   clear u0k u1k u2k u3k g0k g1k g2k g3k glk
   have HZ0:=HZ
   obtain ⟨o9,ho9⟩:=oN x_k
   replace HX:=bA HX o9
   replace HB_k:=bA HB_k o9
   replace HS:=Lib.hid (HS.out.below (bl _ o9))
   replace HT:=tA HT o9
   replace HZ:=zA HZ o9
   subst ho9
   refine (rnode_bad HS.out 17 _ _ _ _).mono ?_
   rintro e w19 ⟨rfl,ht9,hs9⟩
   replace HX:=bT HX ht9 NE
   replace HB_k:=bT HB_k ht9 NE_k
   replace HZ:=zT HZ ht9
   replace HT:=tT HT ht9
   replace HS:=Lib.hid hs9
   clear ht9 hs9
   obtain ⟨u0X,u1X,u2X,u3X,g0X,g1X,g2X,g3X,glX⟩:=HX.out.f4
   go_wp2_with fail
   clear u0X u1X u2X u3X g0X g1X g2X g3X glX
   refine open_post (EndB w E _ _ _) (end_bad HE.out HQ.out HT.out HS.out HX.out (x:=⟨_,_,_,_,_,_⟩)) ?_
   rintro W hE
   obtain ⟨v0,v1,v2,v3,-⟩:=hE.blk.f4
   exact bodyPost_ret (v:=nvA ⟨_,_,_,_,_,_⟩) (by simp [results,Tryz.results98,go_sem,v0,v1,v2,v3]) rfl (hE.done HR.out)
 ·replace HR:=Lib.hid (HR.out.trans (bind_no hr9))
  clear hr9 hq9
  replace HX:=bT HX ht9 NE
  replace HZ:=zT HZ ht9
  replace HT:=tT HT ht9
  replace HS:=Lib.hid hs9
  clear ht9 hs9
  have NE_k:=nE HQ HZ
  have HB_k:=nB w13 x_k
  obtain ⟨o9,ho9⟩:=oN x_k
  replace HX:=bA HX o9
  replace HS:=Lib.hid (HS.out.below (bl _ o9))
  replace HT:=tA HT o9
  replace HZ:=zA HZ o9
  subst ho9
  go_wp2_with fail
  (try rw [← (show (World.alloc w13 (.cells #[.int .i64 x_k.kind,.string x_k.text,.int .i64 x_k.num,.slice x_k.a x_k.len x_k.cap] 24)).heap.size = _ from World.size_alloc _ _)])
  generalize (World.alloc w13 (.cells #[.int .i64 x_k.kind,.string x_k.text,.int .i64 x_k.num,.slice x_k.a x_k.len x_k.cap] 24)) = w20 at *
  refine (rwant_bad HS.out _).mono ?_
  rintro e w21 ⟨rfl,ht9,hs9⟩
  replace HX:=bT HX ht9 NE
  replace HB_k:=bT HB_k ht9 NE_k
  replace HZ:=zT HZ ht9
  replace HT:=tT HT ht9
  replace HS:=Lib.hid hs9
  clear ht9 hs9
  obtain ⟨u0k,u1k,u2k,u3k,g0k,g1k,g2k,g3k,glk⟩:=HB_k.out.f4
  go_wp2_with fail
  clear u0k u1k u2k u3k g0k g1k g2k g3k glk
  have HZ0:=HZ
  obtain ⟨o9,ho9⟩:=oN x_k
  replace HX:=bA HX o9
  replace HB_k:=bA HB_k o9
  replace HS:=Lib.hid (HS.out.below (bl _ o9))
  replace HT:=tA HT o9
  replace HZ:=zA HZ o9
  subst ho9
  refine (rnode_bad HS.out 17 _ _ _ _).mono ?_
  rintro e w22 ⟨rfl,ht9,hs9⟩
  replace HX:=bT HX ht9 NE
  replace HB_k:=bT HB_k ht9 NE_k
  replace HZ:=zT HZ ht9
  replace HT:=tT HT ht9
  replace HS:=Lib.hid hs9
  clear ht9 hs9
  obtain ⟨u0X,u1X,u2X,u3X,g0X,g1X,g2X,g3X,glX⟩:=HX.out.f4
  go_wp2_with fail
  clear u0X u1X u2X u3X g0X g1X g2X g3X glX
  refine open_post (EndB w E _ _ _) (end_bad HE.out HQ.out HT.out HS.out HX.out (x:=⟨_,_,_,_,_,_⟩)) ?_
  rintro W hE
  obtain ⟨v0,v1,v2,v3,-⟩:=hE.blk.f4
  exact bodyPost_ret (v:=nvA ⟨_,_,_,_,_,_⟩) (by simp [results,Tryz.results98,go_sem,v0,v1,v2,v3]) rfl (hE.done HR.out)
set_option maxRecDepth 100000 in
set_option maxHeartbeats 1600000 in
theorem rstmt_do0 {f : Nat} (ihX : RCall f .expr 113) (bdX : RFlat 113) (ihB : RCall f .block 70) (bdB : RFlat 70) {E : Env} {s : PS} {w : World} (h : RGood w E s) (hout : run E.L E.e (f + 1) .stmt s ≠ .out) (b0 : seesP E.L ⟨#[118,97,114]⟩ s = false) (b1 : seesP E.L ⟨#[105,102]⟩ s = false) (b2 : seesP E.L ⟨#[119,104,105,108,101]⟩ s = false) (b3 : seesP E.L ⟨#[114,101,116,117,114,110]⟩ s = false) (b4 : seesP E.L ⟨#[112,114,105,110,116]⟩ s = false) (b5 : seesP E.L ⟨#[102,111,114,107]⟩ s = false) (b6 : seesP E.L ⟨#[119,97,105,116]⟩ s = false) (b7 : seesP E.L ⟨#[115,105,103,110,97,108]⟩ s = false) (b8 : seesP E.L ⟨#[115,119,97,112]⟩ s = false) (a1 : isP E.L 1 s = false) : Calls Tryz.prog 98 #[.pointer (some ⟨E.Q,0,none⟩)] w (REnd E (run E.L E.e (f + 1) .stmt s) w):=by
 have hE : RAt w E (.ok nd0 s):=h
 have HO:=Lib.hid hout
 generalize hrr : run E.L E.e (f + 1) .stmt s = rr at *
 have hr : rr = (run E.L E.e f .expr s).bind fun k s => (wantP E.L E.e ⟨#[59]⟩ s).bind fun _ s => .ok (.mk 17 ⟨#[]⟩ 0 [k]) ⟨s.i,s.dep,s.many + 1⟩:=by
  rw [← hrr]
  simp only [run,tx_var,tx_if,tx_while,tx_return,tx_print,tx_fork,tx_wait,tx_signal,tx_swap,b0,b1,b2,b3,b4,b5,b6,b7,b8,a1,false_and,tx_semi,tx_nil,nodeP,if_false,Bool.false_eq_true]
  all_goals rfl
 have HR:=Lib.hid hr
 clear hrr hr hout
 have HE:=Lib.hid hE.env
 have HQ:=Lib.hid hE.old
 have NE : Hid (¬ w.heap.size = E.Q):=by have:=hE.old;show ¬ _;omega
 have NS : Hid (∀ b,(fun b => w.heap.size < b) b → ¬ b = E.Q):=fun b hb e => by have h1:=hE.old;have h2 : w.heap.size < b:=hb;omega
 obtain ⟨o9,ho9⟩:=oZ
 have hb0:=bl w o9
 have HS:=Lib.hid (h.below hb0)
 have HT:=Lib.hid (Turned.of_below (fun b => b = E.Q) hb0)
 have HX:=zB w
 have HZ:=zN w o9
 subst ho9
 clear h hE hb0
 go_enter Tryz.func98,Tryz.ntmps98
 have B0:=Lib.hid b0
 have B1:=Lib.hid b1
 have B2:=Lib.hid b2
 have B3:=Lib.hid b3
 have B4:=Lib.hid b4
 have B5:=Lib.hid b5
 have B6:=Lib.hid b6
 have B7:=Lib.hid b7
 have B8:=Lib.hid b8
 have A1:=Lib.hid a1
 clear b0 b1 b2 b3 b4 b5 b6 b7 b8 a1
 go_wp2_with fail
 generalize (w.alloc (.cells #[.int .i64 0,.string ⟨#[]⟩,.int .i64 0,.slice none 0 0] 24)) = w1 at *
 refine (rbegins_n HS.out B0.out).mono ?_
 rintro e w2 ⟨rfl,ht9,hs9⟩
 replace HX:=bT HX ht9 NE
 replace HZ:=zT HZ ht9
 replace HT:=tT HT ht9
 replace HS:=Lib.hid hs9
 clear ht9 hs9
 go_wp2_with fail
 refine (rbegins_n HS.out B1.out).mono ?_
 rintro e w3 ⟨rfl,ht9,hs9⟩
 replace HX:=bT HX ht9 NE
 replace HZ:=zT HZ ht9
 replace HT:=tT HT ht9
 replace HS:=Lib.hid hs9
 clear ht9 hs9
 go_wp2_with fail
 refine (rbegins_n HS.out B2.out).mono ?_
 rintro e w4 ⟨rfl,ht9,hs9⟩
 replace HX:=bT HX ht9 NE
 replace HZ:=zT HZ ht9
 replace HT:=tT HT ht9
 replace HS:=Lib.hid hs9
 clear ht9 hs9
 go_wp2_with fail
 refine (rbegins_n HS.out B3.out).mono ?_
 rintro e w5 ⟨rfl,ht9,hs9⟩
 replace HX:=bT HX ht9 NE
 replace HZ:=zT HZ ht9
 replace HT:=tT HT ht9
 replace HS:=Lib.hid hs9
 clear ht9 hs9
 go_wp2_with fail
 refine (rbegins_n HS.out B4.out).mono ?_
 rintro e w6 ⟨rfl,ht9,hs9⟩
 replace HX:=bT HX ht9 NE
 replace HZ:=zT HZ ht9
 replace HT:=tT HT ht9
 replace HS:=Lib.hid hs9
 clear ht9 hs9
 go_wp2_with fail
 refine (rbegins_n HS.out B5.out).mono ?_
 rintro e w7 ⟨rfl,ht9,hs9⟩
 replace HX:=bT HX ht9 NE
 replace HZ:=zT HZ ht9
 replace HT:=tT HT ht9
 replace HS:=Lib.hid hs9
 clear ht9 hs9
 go_wp2_with fail
 refine (rbegins_n HS.out B6.out).mono ?_
 rintro e w8 ⟨rfl,ht9,hs9⟩
 replace HX:=bT HX ht9 NE
 replace HZ:=zT HZ ht9
 replace HT:=tT HT ht9
 replace HS:=Lib.hid hs9
 clear ht9 hs9
 go_wp2_with fail
 refine (rbegins_n HS.out B7.out).mono ?_
 rintro e w9 ⟨rfl,ht9,hs9⟩
 replace HX:=bT HX ht9 NE
 replace HZ:=zT HZ ht9
 replace HT:=tT HT ht9
 replace HS:=Lib.hid hs9
 clear ht9 hs9
 go_wp2_with fail
 refine (rbegins_n HS.out B8.out).mono ?_
 rintro e w10 ⟨rfl,ht9,hs9⟩
 replace HX:=bT HX ht9 NE
 replace HZ:=zT HZ ht9
 replace HT:=tT HT ht9
 replace HS:=Lib.hid hs9
 clear ht9 hs9
 go_wp2_with fail
 refine (ris_is HS.out A1.out).mono ?_
 rintro e w11 ⟨rfl,hb9⟩
 have ht9:=Turned.of_below (fun b => b = E.Q) hb9
 have hs9:=HS.out.below hb9
 clear hb9
 replace HX:=bT HX ht9 NE
 replace HZ:=zT HZ ht9
 replace HT:=tT HT ht9
 replace HS:=Lib.hid hs9
 clear ht9 hs9
 obtain ⟨z0,z1,z2,z3,z4,z5,z6,z7,z8,z9,z10,z11,zl⟩:=HS.out.blk.f7
 go_wp2_with fail
 go_quiet (fail)
 clear z0 z1 z2 z3 z4 z5 z6 z7 z8 z9 z10 z11 zl
 have hb9:=belowN (World.heap w11).size w11 nq
 have ht9:=Turned.of_below (fun b => b = E.Q) hb9
 have hs9:=HS.out.below hb9
 clear hb9
 replace HX:=bT HX ht9 NE
 replace HZ:=zT HZ ht9
 replace HT:=tT HT ht9
 replace HS:=Lib.hid hs9
 clear ht9 hs9
 go_wp2_with fail
 generalize (World.drewN w11 nq) = w12 at *
 refine ((ihX E) _ _ HS.out (fun h => HO.out (HR.out.trans (bind_out h)))).mono ?_
 rintro e w13 hq9
 rcases hq9.two (fun h => HO.out (HR.out.trans (bind_out h))) with ⟨n_k,s14,x_k,hr9,rfl,ht9,hs9,hi9⟩ | ⟨c9,p9,x_k,hr9,rfl,ht9,hs9⟩
 ·replace HR:=Lib.hid (HR.out.trans (bind_ok hr9))
  clear hr9 hq9
  have T_k:=Lib.hid (hi9.weak (S':=(fun b => w.heap.size < b)) (fun b hb h => Nat.lt_of_lt_of_le HZ.out h))
  clear hi9
  replace HX:=bT HX ht9 NE
  replace HZ:=zT HZ ht9
  replace HT:=tT HT ht9
  replace HS:=Lib.hid hs9
  clear ht9 hs9
  have NE_k:=nE HQ HZ
  have HB_k:=nB w13 x_k
  obtain ⟨o9,ho9⟩:=oN x_k
  replace HX:=bA HX o9
  replace T_k:=nA T_k o9
  replace HS:=Lib.hid (HS.out.below (bl _ o9))
  replace HT:=tA HT o9
  replace HZ:=zA HZ o9
  subst ho9
  go_wp2_with fail
  (try rw [← (show (World.alloc w13 (.cells #[.int .i64 x_k.kind,.string x_k.text,.int .i64 x_k.num,.slice x_k.a x_k.len x_k.cap] 24)).heap.size = _ from World.size_alloc _ _)])
  generalize (World.alloc w13 (.cells #[.int .i64 x_k.kind,.string x_k.text,.int .i64 x_k.num,.slice x_k.a x_k.len x_k.cap] 24)) = w15 at *
  refine (rwant_two HS.out _).mono ?_
  rintro e w16 ⟨rfl,ht9,(⟨m9,s17,hr9,hs9⟩ | ⟨c9,p9,hr9,hs9⟩)⟩
  ·replace HR:=Lib.hid (HR.out.trans (bind_ok hr9))
   clear hr9
   replace HX:=bT HX ht9 NE
   replace HB_k:=bT HB_k ht9 NE_k
   replace T_k:=nT T_k ht9 NS
   replace HZ:=zT HZ ht9
   replace HT:=tT HT ht9
   replace HS:=Lib.hid hs9
   clear ht9 hs9
   obtain ⟨u0k,u1k,u2k,u3k,g0k,g1k,g2k,g3k,glk⟩:=HB_k.out.f4
   go_wp2_with fail
   clear u0k u1k u2k u3k g0k g1k g2k g3k glk
   have HZ0:=HZ
   obtain ⟨o9,ho9⟩:=oN x_k
   replace HX:=bA HX o9
   replace HB_k:=bA HB_k o9
   replace T_k:=nA T_k o9
   replace HS:=Lib.hid (HS.out.below (bl _ o9))
   replace HT:=tA HT o9
   replace HZ:=zA HZ o9
   subst ho9
   obtain ⟨A9,c9,e9,-,hn9⟩:=(OwnN.new w16 0 [x_k] (by simp) (by simp) (Nat.zero_le _) #[.int .i64 x_k.kind,.string x_k.text,.int .i64 x_k.num,.slice x_k.a x_k.len x_k.cap] rfl).nodes (S':=(fun b => w.heap.size < b)) (AllN.one T_k.out) (fun b h => h) (fun k hk => by cases hk;exact (show w.heap.size < (World.heap w16).size from HZ0.out))
   cases e9
   have KN:=Lib.hid hn9
   clear hn9
   refine (rnode_any (r:=.ok nd0 _) 17 _ _ _ _ HS.out).mono ?_
   rintro e w18 ⟨rfl,ht9,hs9⟩
   have hs9 : RGood _ _ _:=hs9 nd0
   replace KN:=Lib.hid (KN.out.kept ht9.size (fun b hb hs => ht9.block b hb (NS.out b hs)) (fun b _ h => h))
   replace HX:=bT HX ht9 NE
   replace HB_k:=bT HB_k ht9 NE_k
   replace T_k:=nT T_k ht9 NS
   replace HZ:=zT HZ ht9
   replace HT:=tT HT ht9
   replace HS:=Lib.hid hs9
   clear ht9 hs9
   obtain ⟨u0X,u1X,u2X,u3X,g0X,g1X,g2X,g3X,glX⟩:=HX.out.f4
   go_wp2_with fail
   clear u0X u1X u2X u3X g0X g1X g2X g3X glX
   refine open_post (EndG w E _ ⟨17,⟨#[]⟩,0,(some ⟨(World.heap w16).size,0,none⟩),1,1⟩ (.mk 17 ⟨#[]⟩ 0 [n_k])) (end_good HE.out HQ.out HT.out HS.out HX.out (x:=⟨17,⟨#[]⟩,0,(some ⟨(World.heap w16).size,0,none⟩),1,1⟩) (n:=(.mk 17 ⟨#[]⟩ 0 [n_k])) ⟨⟨rfl,rfl,rfl,rfl⟩,KN.out⟩ (S:=(fun b => w.heap.size < b)) (fun b h => h)) ?_
   rintro W hE
   obtain ⟨v0,v1,v2,v3,-⟩:=hE.blk.f4
   exact bodyPost_ret (v:=nvA ⟨17,⟨#[]⟩,0,(some ⟨(World.heap w16).size,0,none⟩),1,1⟩) (by simp [results,Tryz.results98,go_sem,v0,v1,v2,v3]) rfl (hE.done HR.out)
  ·replace HR:=Lib.hid (HR.out.trans (bind_no hr9))
   clear hr9
   replace HX:=bT HX ht9 NE
   replace HB_k:=bT HB_k ht9 NE_k
   replace HZ:=zT HZ ht9
   replace HT:=tT HT ht9
   replace HS:=Lib.hid hs9
   clear ht9 hs9
   obtain ⟨u0k,u1k,u2k,u3k,g0k,g1k,g2k,g3k,glk⟩:=HB_k.out.f4
   go_wp2_with fail
   clear u0k u1k u2k u3k g0k g1k g2k g3k glk
   have HZ0:=HZ
   obtain ⟨o9,ho9⟩:=oN x_k
   replace HX:=bA HX o9
   replace HB_k:=bA HB_k o9
   replace HS:=Lib.hid (HS.out.below (bl _ o9))
   replace HT:=tA HT o9
   replace HZ:=zA HZ o9
   subst ho9
   refine (rnode_bad HS.out 17 _ _ _ _).mono ?_
   rintro e w19 ⟨rfl,ht9,hs9⟩
   replace HX:=bT HX ht9 NE
   replace HB_k:=bT HB_k ht9 NE_k
   replace HZ:=zT HZ ht9
   replace HT:=tT HT ht9
   replace HS:=Lib.hid hs9
   clear ht9 hs9
   obtain ⟨u0X,u1X,u2X,u3X,g0X,g1X,g2X,g3X,glX⟩:=HX.out.f4
   go_wp2_with fail
   clear u0X u1X u2X u3X g0X g1X g2X g3X glX
   refine open_post (EndB w E _ _ _) (end_bad HE.out HQ.out HT.out HS.out HX.out (x:=⟨_,_,_,_,_,_⟩)) ?_
   rintro W hE
   obtain ⟨v0,v1,v2,v3,-⟩:=hE.blk.f4
   exact bodyPost_ret (v:=nvA ⟨_,_,_,_,_,_⟩) (by simp [results,Tryz.results98,go_sem,v0,v1,v2,v3]) rfl (hE.done HR.out)
 ·replace HR:=Lib.hid (HR.out.trans (bind_no hr9))
  clear hr9 hq9
  replace HX:=bT HX ht9 NE
  replace HZ:=zT HZ ht9
  replace HT:=tT HT ht9
  replace HS:=Lib.hid hs9
  clear ht9 hs9
  have NE_k:=nE HQ HZ
  have HB_k:=nB w13 x_k
  obtain ⟨o9,ho9⟩:=oN x_k
  replace HX:=bA HX o9
  replace HS:=Lib.hid (HS.out.below (bl _ o9))
  replace HT:=tA HT o9
  replace HZ:=zA HZ o9
  subst ho9
  go_wp2_with fail
  (try rw [← (show (World.alloc w13 (.cells #[.int .i64 x_k.kind,.string x_k.text,.int .i64 x_k.num,.slice x_k.a x_k.len x_k.cap] 24)).heap.size = _ from World.size_alloc _ _)])
  generalize (World.alloc w13 (.cells #[.int .i64 x_k.kind,.string x_k.text,.int .i64 x_k.num,.slice x_k.a x_k.len x_k.cap] 24)) = w20 at *
  refine (rwant_bad HS.out _).mono ?_
  rintro e w21 ⟨rfl,ht9,hs9⟩
  replace HX:=bT HX ht9 NE
  replace HB_k:=bT HB_k ht9 NE_k
  replace HZ:=zT HZ ht9
  replace HT:=tT HT ht9
  replace HS:=Lib.hid hs9
  clear ht9 hs9
  obtain ⟨u0k,u1k,u2k,u3k,g0k,g1k,g2k,g3k,glk⟩:=HB_k.out.f4
  go_wp2_with fail
  clear u0k u1k u2k u3k g0k g1k g2k g3k glk
  have HZ0:=HZ
  obtain ⟨o9,ho9⟩:=oN x_k
  replace HX:=bA HX o9
  replace HB_k:=bA HB_k o9
  replace HS:=Lib.hid (HS.out.below (bl _ o9))
  replace HT:=tA HT o9
  replace HZ:=zA HZ o9
  subst ho9
  refine (rnode_bad HS.out 17 _ _ _ _).mono ?_
  rintro e w22 ⟨rfl,ht9,hs9⟩
  replace HX:=bT HX ht9 NE
  replace HB_k:=bT HB_k ht9 NE_k
  replace HZ:=zT HZ ht9
  replace HT:=tT HT ht9
  replace HS:=Lib.hid hs9
  clear ht9 hs9
  obtain ⟨u0X,u1X,u2X,u3X,g0X,g1X,g2X,g3X,glX⟩:=HX.out.f4
  go_wp2_with fail
  clear u0X u1X u2X u3X g0X g1X g2X g3X glX
  refine open_post (EndB w E _ _ _) (end_bad HE.out HQ.out HT.out HS.out HX.out (x:=⟨_,_,_,_,_,_⟩)) ?_
  rintro W hE
  obtain ⟨v0,v1,v2,v3,-⟩:=hE.blk.f4
  exact bodyPost_ret (v:=nvA ⟨_,_,_,_,_,_⟩) (by simp [results,Tryz.results98,go_sem,v0,v1,v2,v3]) rfl (hE.done HR.out)
end Go.Proofs.YtbpldfmmlgkfnaaGreatDoor
