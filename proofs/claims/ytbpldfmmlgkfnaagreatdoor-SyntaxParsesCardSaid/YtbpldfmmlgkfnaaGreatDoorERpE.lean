/- The document's parser: where it has given up, every level. Conditions: none. -/
import Derived.Test.YtbpldfmmlgkfnaaGreatDoorEMemZ
import Derived.Test.YtbpldfmmlgkfnaaGreatDoorERpD
namespace Go.Proofs.YtbpldfmmlgkfnaaGreatDoor
open Go.RowKit
set_option linter.unusedVariables false

set_option maxRecDepth 100000 in
set_option maxHeartbeats 1600000 in
theorem rcall_bad (bdP : RFlat 143) : RFlat 136:=by
 intro E c p w h
 have hE : RAt w E (.no c p):=h
 have HE:=Lib.hid hE.env
 have HQ:=Lib.hid hE.old
 have NE : Hid (¬ w.heap.size = E.Q):=by have:=hE.old;show ¬ _;omega
 have NS : Hid (∀ b,(fun b => w.heap.size < b) b → ¬ b = E.Q):=fun b hb e => by have h1:=hE.old;have h2 : w.heap.size < b:=hb;omega
 obtain ⟨o9,ho9⟩:=oZ
 have hb0:=bl w o9
 have HS:=Lib.hid (h.below hb0)
 have HT:=Lib.hid (Turned.of_below (fun b => b = E.Q) hb0)
 have HX:=zB w
 have HZ:=zN w o9
 subst ho9
 clear h hE hb0
 go_enter Tryz.func136,Tryz.ntmps136
 go_wp2_with fail
 generalize (w.alloc (.cells #[.int .i64 0,.string ⟨#[]⟩,.int .i64 0,.slice none 0 0] 24)) = w1 at *
 refine (bdP E _ _ _ HS.out).mono ?_
 rintro e w2 ⟨x_n,rfl,ht9,hs9,-⟩
 have hs9 : RBad _ _ _ _:=hs9
 replace HX:=bT HX ht9 NE
 replace HZ:=zT HZ ht9
 replace HT:=tT HT ht9
 replace HS:=Lib.hid hs9
 clear ht9 hs9
 have HZ1:=HZ
 have NE_n:=nE HQ HZ
 have HB_n:=nB w2 x_n
 obtain ⟨o9,ho9⟩:=oN x_n
 replace HX:=bA HX o9
 replace HS:=Lib.hid (HS.out.below (bl _ o9))
 replace HT:=tA HT o9
 replace HZ:=zA HZ o9
 subst ho9
 go_wp2_with fail
 (try rw [← (show (World.alloc w2 (.cells #[.int .i64 x_n.kind,.string x_n.text,.int .i64 x_n.num,.slice x_n.a x_n.len x_n.cap] 24)).heap.size = _ from World.size_alloc _ _)])
 generalize (World.alloc w2 (.cells #[.int .i64 x_n.kind,.string x_n.text,.int .i64 x_n.num,.slice x_n.a x_n.len x_n.cap] 24)) = w4 at *
 generalize w2.heap.size = b1 at *
 have NB:=HZ1
 have NE_m:=NE_n
 go_loopw [4] (fun v wr => v = .int .i64 0 ∧ Turned w wr (fun b => b = E.Q) ∧ w.heap.size < wr.heap.size ∧ Blk wr w.heap.size 24 #[.int .i64 0,.string ⟨#[]⟩,.int .i64 0,.slice none 0 0] ∧ (∃ x : NV,Blk wr b1 24 #[.int .i64 x.kind,.string x.text,.int .i64 x.num,.slice x.a x.len x.cap]) ∧ RBad wr E c p) (fun _ _ => 0)
 case atStart => exact ⟨rfl,HT.out,HZ.out,HX.out,⟨x_n,HB_n.out⟩,HS.out⟩
 case round =>
  clear HT HZ HX HB_n HS
  obtain ⟨rfl,ht,hz,hx,⟨x_m,hb⟩,hs⟩:=hrel
  have HT:=Lib.hid ht
  have HZ:=Lib.hid hz
  have HX:=Lib.hid hx
  have HB_m:=Lib.hid hb
  have HS:=Lib.hid hs
  have hfew:=hs.env.few
  clear ht hz hx hb hs
  obtain ⟨zi,zd,zm,hq⟩:=HS.out.blk
  obtain ⟨z0,z1,z2,z3,z4,z5,z6,z7,z8,z9,z10,z11,zl⟩:=hq.f7
  have zc:=HS.out.ne
  clear hq
  go_wp2_with fail
  clear z0 z1 z2 z3 z4 z5 z6 z7 z8 z9 z10 z11 zl zc
  refine (rbegins_bad HS.out _).mono ?_
  rintro e w5 ⟨rfl,ht9,hs9⟩
  replace HX:=bT HX ht9 NE
  replace HB_m:=bT HB_m ht9 NE_m
  replace HZ:=zT HZ ht9
  replace HT:=tT HT ht9
  replace HS:=Lib.hid hs9
  clear ht9 hs9
  obtain ⟨u0X,u1X,u2X,u3X,g0X,g1X,g2X,g3X,glX⟩:=HX.out.f4
  obtain ⟨u0m,u1m,u2m,u3m,g0m,g1m,g2m,g3m,glm⟩:=HB_m.out.f4
  go_wp2_with fail
  clear u0X u1X u2X u3X g0X g1X g2X g3X glX u0m u1m u2m u3m g0m g1m g2m g3m glm
  refine open_post (EndB w E _ _ _) (end_bad HE.out HQ.out HT.out HS.out HX.out (x:=⟨_,_,_,_,_,_⟩)) ?_
  rintro W hE
  obtain ⟨v0,v1,v2,v3,-⟩:=hE.blk.f4
  exact bodyPost_ret (v:=nvA ⟨_,_,_,_,_,_⟩) (by simp [results,Tryz.results136,go_sem,v0,v1,v2,v3]) rfl (hE.done rfl)
set_option maxRecDepth 100000 in
set_option maxHeartbeats 1600000 in
theorem runary_bad (bdC : RFlat 136) : RFlat 130:=by
 intro E c p w h
 have hE : RAt w E (.no c p):=h
 have HE:=Lib.hid hE.env
 have HQ:=Lib.hid hE.old
 have NE : Hid (¬ w.heap.size = E.Q):=by have:=hE.old;show ¬ _;omega
 have NS : Hid (∀ b,(fun b => w.heap.size < b) b → ¬ b = E.Q):=fun b hb e => by have h1:=hE.old;have h2 : w.heap.size < b:=hb;omega
 obtain ⟨o9,ho9⟩:=oZ
 have hb0:=bl w o9
 have HS:=Lib.hid (h.below hb0)
 have HT:=Lib.hid (Turned.of_below (fun b => b = E.Q) hb0)
 have HX:=zB w
 have HZ:=zN w o9
 subst ho9
 clear h hE hb0
 go_enter Tryz.func130,Tryz.ntmps130
 go_wp2_with fail
 generalize (w.alloc (.cells #[.int .i64 0,.string ⟨#[]⟩,.int .i64 0,.slice none 0 0] 24)) = w1 at *
 refine (rsees_bad _ HS.out).mono ?_
 rintro e w2 ⟨rfl,hb9⟩
 have ht9:=Turned.of_below (fun b => b = E.Q) hb9
 have hs9:=HS.out.below hb9
 clear hb9
 replace HX:=bT HX ht9 NE
 replace HZ:=zT HZ ht9
 replace HT:=tT HT ht9
 replace HS:=Lib.hid hs9
 clear ht9 hs9
 go_wp2_with fail
 refine (rsees_bad _ HS.out).mono ?_
 rintro e w3 ⟨rfl,hb9⟩
 have ht9:=Turned.of_below (fun b => b = E.Q) hb9
 have hs9:=HS.out.below hb9
 clear hb9
 replace HX:=bT HX ht9 NE
 replace HZ:=zT HZ ht9
 replace HT:=tT HT ht9
 replace HS:=Lib.hid hs9
 clear ht9 hs9
 go_wp2_with fail
 refine (bdC E _ _ _ HS.out).mono ?_
 rintro e w4 ⟨x_k,rfl,ht9,hs9,-⟩
 have hs9 : RBad _ _ _ _:=hs9
 replace HX:=bT HX ht9 NE
 replace HZ:=zT HZ ht9
 replace HT:=tT HT ht9
 replace HS:=Lib.hid hs9
 clear ht9 hs9
 obtain ⟨u0X,u1X,u2X,u3X,g0X,g1X,g2X,g3X,glX⟩:=HX.out.f4
 go_wp2_with fail
 clear u0X u1X u2X u3X g0X g1X g2X g3X glX
 refine open_post (EndB w E _ _ _) (end_bad HE.out HQ.out HT.out HS.out HX.out (x:=⟨_,_,_,_,_,_⟩)) ?_
 rintro W hE
 obtain ⟨v0,v1,v2,v3,-⟩:=hE.blk.f4
 exact bodyPost_ret (v:=nvA ⟨_,_,_,_,_,_⟩) (by simp [results,Tryz.results130,go_sem,v0,v1,v2,v3]) rfl (hE.done rfl)
set_option maxRecDepth 100000 in
set_option maxHeartbeats 1600000 in
theorem rterm_bad (bdU : RFlat 130) : RFlat 127:=by
 intro E c p w h
 have hE : RAt w E (.no c p):=h
 have HE:=Lib.hid hE.env
 have HQ:=Lib.hid hE.old
 have NE : Hid (¬ w.heap.size = E.Q):=by have:=hE.old;show ¬ _;omega
 have NS : Hid (∀ b,(fun b => w.heap.size < b) b → ¬ b = E.Q):=fun b hb e => by have h1:=hE.old;have h2 : w.heap.size < b:=hb;omega
 obtain ⟨o9,ho9⟩:=oZ
 have hb0:=bl w o9
 have HS:=Lib.hid (h.below hb0)
 have HT:=Lib.hid (Turned.of_below (fun b => b = E.Q) hb0)
 have HX:=zB w
 have HZ:=zN w o9
 subst ho9
 clear h hE hb0
 go_enter Tryz.func127,Tryz.ntmps127
 go_wp2_with fail
 generalize (w.alloc (.cells #[.int .i64 0,.string ⟨#[]⟩,.int .i64 0,.slice none 0 0] 24)) = w1 at *
 refine (bdU E _ _ _ HS.out).mono ?_
 rintro e w2 ⟨x_n,rfl,ht9,hs9,-⟩
 have hs9 : RBad _ _ _ _:=hs9
 replace HX:=bT HX ht9 NE
 replace HZ:=zT HZ ht9
 replace HT:=tT HT ht9
 replace HS:=Lib.hid hs9
 clear ht9 hs9
 have HZ1:=HZ
 have NE_n:=nE HQ HZ
 have HB_n:=nB w2 x_n
 obtain ⟨o9,ho9⟩:=oN x_n
 replace HX:=bA HX o9
 replace HS:=Lib.hid (HS.out.below (bl _ o9))
 replace HT:=tA HT o9
 replace HZ:=zA HZ o9
 subst ho9
 go_wp2_with fail
 (try rw [← (show (World.alloc w2 (.cells #[.int .i64 x_n.kind,.string x_n.text,.int .i64 x_n.num,.slice x_n.a x_n.len x_n.cap] 24)).heap.size = _ from World.size_alloc _ _)])
 generalize (World.alloc w2 (.cells #[.int .i64 x_n.kind,.string x_n.text,.int .i64 x_n.num,.slice x_n.a x_n.len x_n.cap] 24)) = w4 at *
 generalize w2.heap.size = b1 at *
 have NB:=HZ1
 have NE_m:=NE_n
 go_loopw [4] (fun v wr => v = .int .i64 0 ∧ Turned w wr (fun b => b = E.Q) ∧ w.heap.size < wr.heap.size ∧ Blk wr w.heap.size 24 #[.int .i64 0,.string ⟨#[]⟩,.int .i64 0,.slice none 0 0] ∧ (∃ x : NV,Blk wr b1 24 #[.int .i64 x.kind,.string x.text,.int .i64 x.num,.slice x.a x.len x.cap]) ∧ RBad wr E c p) (fun _ _ => 0)
 case atStart => exact ⟨rfl,HT.out,HZ.out,HX.out,⟨x_n,HB_n.out⟩,HS.out⟩
 case round =>
  clear HT HZ HX HB_n HS
  obtain ⟨rfl,ht,hz,hx,⟨x_m,hb⟩,hs⟩:=hrel
  have HT:=Lib.hid ht
  have HZ:=Lib.hid hz
  have HX:=Lib.hid hx
  have HB_m:=Lib.hid hb
  have HS:=Lib.hid hs
  have hfew:=hs.env.few
  clear ht hz hx hb hs
  obtain ⟨zi,zd,zm,hq⟩:=HS.out.blk
  obtain ⟨z0,z1,z2,z3,z4,z5,z6,z7,z8,z9,z10,z11,zl⟩:=hq.f7
  have zc:=HS.out.ne
  clear hq
  go_wp2_with fail
  clear z0 z1 z2 z3 z4 z5 z6 z7 z8 z9 z10 z11 zl zc
  refine (rbegins_bad HS.out _).mono ?_
  rintro e w5 ⟨rfl,ht9,hs9⟩
  replace HX:=bT HX ht9 NE
  replace HB_m:=bT HB_m ht9 NE_m
  replace HZ:=zT HZ ht9
  replace HT:=tT HT ht9
  replace HS:=Lib.hid hs9
  clear ht9 hs9
  obtain ⟨u0X,u1X,u2X,u3X,g0X,g1X,g2X,g3X,glX⟩:=HX.out.f4
  obtain ⟨u0m,u1m,u2m,u3m,g0m,g1m,g2m,g3m,glm⟩:=HB_m.out.f4
  go_wp2_with fail
  clear u0X u1X u2X u3X g0X g1X g2X g3X glX u0m u1m u2m u3m g0m g1m g2m g3m glm
  refine open_post (EndB w E _ _ _) (end_bad HE.out HQ.out HT.out HS.out HX.out (x:=⟨_,_,_,_,_,_⟩)) ?_
  rintro W hE
  obtain ⟨v0,v1,v2,v3,-⟩:=hE.blk.f4
  exact bodyPost_ret (v:=nvA ⟨_,_,_,_,_,_⟩) (by simp [results,Tryz.results127,go_sem,v0,v1,v2,v3]) rfl (hE.done rfl)
set_option maxRecDepth 100000 in
set_option maxHeartbeats 1600000 in
theorem rsum_bad (bdT : RFlat 127) : RFlat 121:=by
 intro E c p w h
 have hE : RAt w E (.no c p):=h
 have HE:=Lib.hid hE.env
 have HQ:=Lib.hid hE.old
 have NE : Hid (¬ w.heap.size = E.Q):=by have:=hE.old;show ¬ _;omega
 have NS : Hid (∀ b,(fun b => w.heap.size < b) b → ¬ b = E.Q):=fun b hb e => by have h1:=hE.old;have h2 : w.heap.size < b:=hb;omega
 obtain ⟨o9,ho9⟩:=oZ
 have hb0:=bl w o9
 have HS:=Lib.hid (h.below hb0)
 have HT:=Lib.hid (Turned.of_below (fun b => b = E.Q) hb0)
 have HX:=zB w
 have HZ:=zN w o9
 subst ho9
 clear h hE hb0
 go_enter Tryz.func121,Tryz.ntmps121
 go_wp2_with fail
 generalize (w.alloc (.cells #[.int .i64 0,.string ⟨#[]⟩,.int .i64 0,.slice none 0 0] 24)) = w1 at *
 refine (bdT E _ _ _ HS.out).mono ?_
 rintro e w2 ⟨x_n,rfl,ht9,hs9,-⟩
 have hs9 : RBad _ _ _ _:=hs9
 replace HX:=bT HX ht9 NE
 replace HZ:=zT HZ ht9
 replace HT:=tT HT ht9
 replace HS:=Lib.hid hs9
 clear ht9 hs9
 have HZ1:=HZ
 have NE_n:=nE HQ HZ
 have HB_n:=nB w2 x_n
 obtain ⟨o9,ho9⟩:=oN x_n
 replace HX:=bA HX o9
 replace HS:=Lib.hid (HS.out.below (bl _ o9))
 replace HT:=tA HT o9
 replace HZ:=zA HZ o9
 subst ho9
 go_wp2_with fail
 (try rw [← (show (World.alloc w2 (.cells #[.int .i64 x_n.kind,.string x_n.text,.int .i64 x_n.num,.slice x_n.a x_n.len x_n.cap] 24)).heap.size = _ from World.size_alloc _ _)])
 generalize (World.alloc w2 (.cells #[.int .i64 x_n.kind,.string x_n.text,.int .i64 x_n.num,.slice x_n.a x_n.len x_n.cap] 24)) = w4 at *
 generalize w2.heap.size = b1 at *
 have NB:=HZ1
 have NE_m:=NE_n
 go_loopw [4] (fun v wr => v = .int .i64 0 ∧ Turned w wr (fun b => b = E.Q) ∧ w.heap.size < wr.heap.size ∧ Blk wr w.heap.size 24 #[.int .i64 0,.string ⟨#[]⟩,.int .i64 0,.slice none 0 0] ∧ (∃ x : NV,Blk wr b1 24 #[.int .i64 x.kind,.string x.text,.int .i64 x.num,.slice x.a x.len x.cap]) ∧ RBad wr E c p) (fun _ _ => 0)
 case atStart => exact ⟨rfl,HT.out,HZ.out,HX.out,⟨x_n,HB_n.out⟩,HS.out⟩
 case round =>
  clear HT HZ HX HB_n HS
  obtain ⟨rfl,ht,hz,hx,⟨x_m,hb⟩,hs⟩:=hrel
  have HT:=Lib.hid ht
  have HZ:=Lib.hid hz
  have HX:=Lib.hid hx
  have HB_m:=Lib.hid hb
  have HS:=Lib.hid hs
  have hfew:=hs.env.few
  clear ht hz hx hb hs
  obtain ⟨zi,zd,zm,hq⟩:=HS.out.blk
  obtain ⟨z0,z1,z2,z3,z4,z5,z6,z7,z8,z9,z10,z11,zl⟩:=hq.f7
  have zc:=HS.out.ne
  clear hq
  go_wp2_with fail
  clear z0 z1 z2 z3 z4 z5 z6 z7 z8 z9 z10 z11 zl zc
  refine (rbegins_bad HS.out _).mono ?_
  rintro e w5 ⟨rfl,ht9,hs9⟩
  replace HX:=bT HX ht9 NE
  replace HB_m:=bT HB_m ht9 NE_m
  replace HZ:=zT HZ ht9
  replace HT:=tT HT ht9
  replace HS:=Lib.hid hs9
  clear ht9 hs9
  go_wp2_with fail
  refine (rbegins_bad HS.out _).mono ?_
  rintro e w6 ⟨rfl,ht9,hs9⟩
  replace HX:=bT HX ht9 NE
  replace HB_m:=bT HB_m ht9 NE_m
  replace HZ:=zT HZ ht9
  replace HT:=tT HT ht9
  replace HS:=Lib.hid hs9
  clear ht9 hs9
  obtain ⟨u0X,u1X,u2X,u3X,g0X,g1X,g2X,g3X,glX⟩:=HX.out.f4
  obtain ⟨u0m,u1m,u2m,u3m,g0m,g1m,g2m,g3m,glm⟩:=HB_m.out.f4
  go_wp2_with fail
  clear u0X u1X u2X u3X g0X g1X g2X g3X glX u0m u1m u2m u3m g0m g1m g2m g3m glm
  refine open_post (EndB w E _ _ _) (end_bad HE.out HQ.out HT.out HS.out HX.out (x:=⟨_,_,_,_,_,_⟩)) ?_
  rintro W hE
  obtain ⟨v0,v1,v2,v3,-⟩:=hE.blk.f4
  exact bodyPost_ret (v:=nvA ⟨_,_,_,_,_,_⟩) (by simp [results,Tryz.results121,go_sem,v0,v1,v2,v3]) rfl (hE.done rfl)
set_option maxRecDepth 100000 in
set_option maxHeartbeats 1600000 in
theorem rexpr_bad (bdS : RFlat 121) : RFlat 113:=by
 intro E c p w h
 have hE : RAt w E (.no c p):=h
 have HE:=Lib.hid hE.env
 have HQ:=Lib.hid hE.old
 have NE : Hid (¬ w.heap.size = E.Q):=by have:=hE.old;show ¬ _;omega
 have NS : Hid (∀ b,(fun b => w.heap.size < b) b → ¬ b = E.Q):=fun b hb e => by have h1:=hE.old;have h2 : w.heap.size < b:=hb;omega
 obtain ⟨o9,ho9⟩:=oZ
 have hb0:=bl w o9
 have HS:=Lib.hid (h.below hb0)
 have HT:=Lib.hid (Turned.of_below (fun b => b = E.Q) hb0)
 have HX:=zB w
 have HZ:=zN w o9
 subst ho9
 clear h hE hb0
 go_enter Tryz.func113,Tryz.ntmps113
 go_wp2_with fail
 generalize (w.alloc (.cells #[.int .i64 0,.string ⟨#[]⟩,.int .i64 0,.slice none 0 0] 24)) = w1 at *
 refine (bdS E _ _ _ HS.out).mono ?_
 rintro e w2 ⟨x_n,rfl,ht9,hs9,-⟩
 have hs9 : RBad _ _ _ _:=hs9
 replace HX:=bT HX ht9 NE
 replace HZ:=zT HZ ht9
 replace HT:=tT HT ht9
 replace HS:=Lib.hid hs9
 clear ht9 hs9
 have NE_n:=nE HQ HZ
 have HB_n:=nB w2 x_n
 obtain ⟨o9,ho9⟩:=oN x_n
 replace HX:=bA HX o9
 replace HS:=Lib.hid (HS.out.below (bl _ o9))
 replace HT:=tA HT o9
 replace HZ:=zA HZ o9
 subst ho9
 go_wp2_with fail
 (try rw [← (show (World.alloc w2 (.cells #[.int .i64 x_n.kind,.string x_n.text,.int .i64 x_n.num,.slice x_n.a x_n.len x_n.cap] 24)).heap.size = _ from World.size_alloc _ _)])
 generalize (World.alloc w2 (.cells #[.int .i64 x_n.kind,.string x_n.text,.int .i64 x_n.num,.slice x_n.a x_n.len x_n.cap] 24)) = w4 at *
 refine (rbegins_bad HS.out _).mono ?_
 rintro e w5 ⟨rfl,ht9,hs9⟩
 replace HX:=bT HX ht9 NE
 replace HB_n:=bT HB_n ht9 NE_n
 replace HZ:=zT HZ ht9
 replace HT:=tT HT ht9
 replace HS:=Lib.hid hs9
 clear ht9 hs9
 go_wp2_with fail
 refine (rbegins_bad HS.out _).mono ?_
 rintro e w6 ⟨rfl,ht9,hs9⟩
 replace HX:=bT HX ht9 NE
 replace HB_n:=bT HB_n ht9 NE_n
 replace HZ:=zT HZ ht9
 replace HT:=tT HT ht9
 replace HS:=Lib.hid hs9
 clear ht9 hs9
 obtain ⟨u0X,u1X,u2X,u3X,g0X,g1X,g2X,g3X,glX⟩:=HX.out.f4
 obtain ⟨u0n,u1n,u2n,u3n,g0n,g1n,g2n,g3n,gln⟩:=HB_n.out.f4
 go_wp2_with fail
 clear u0X u1X u2X u3X g0X g1X g2X g3X glX u0n u1n u2n u3n g0n g1n g2n g3n gln
 refine open_post (EndB w E _ _ _) (end_bad HE.out HQ.out HT.out HS.out HX.out (x:=⟨_,_,_,_,_,_⟩)) ?_
 rintro W hE
 obtain ⟨v0,v1,v2,v3,-⟩:=hE.blk.f4
 exact bodyPost_ret (v:=nvA ⟨_,_,_,_,_,_⟩) (by simp [results,Tryz.results113,go_sem,v0,v1,v2,v3]) rfl (hE.done rfl)
end Go.Proofs.YtbpldfmmlgkfnaaGreatDoor
