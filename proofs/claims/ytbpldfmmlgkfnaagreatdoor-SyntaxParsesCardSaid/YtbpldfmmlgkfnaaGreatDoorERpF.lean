/- The document's parser: comparisons, what stands behind a name, primaries. Conditions: what the lower levels do. -/
import Derived.Test.YtbpldfmmlgkfnaaGreatDoorEMemZ
import Derived.Test.YtbpldfmmlgkfnaaGreatDoorERpE
namespace Go.Proofs.YtbpldfmmlgkfnaaGreatDoor
open Go.RowKit
set_option linter.unusedVariables false

set_option maxRecDepth 100000 in
set_option maxHeartbeats 1600000 in
theorem rexpr_any {f : Nat} (ihS : RCall f .sum 121) (bdS : RFlat 121) {E : Env} {s : PS} {w : World} (h : RGood w E s) (hout : run E.L E.e (f + 1) .expr s ≠ .out) : Calls Tryz.prog 113 #[.pointer (some ⟨E.Q,0,none⟩)] w (REnd E (run E.L E.e (f + 1) .expr s) w):=by
 have hE : RAt w E (.ok nd0 s):=h
 have HO:=Lib.hid hout
 generalize hrr : run E.L E.e (f + 1) .expr s = rr at *
 have hr:=hrr.symm
 simp only [run,nodeP,tx_nil,tx_lt,tx_same,] at hr
 have HR:=Lib.hid hr
 clear hrr hr hout
 have HE:=Lib.hid hE.env
 have HQ:=Lib.hid hE.old
 have NE : Hid (¬ w.heap.size = E.Q):=by have:=hE.old;show ¬ _;omega
 have NS : Hid (∀ b,(fun b => w.heap.size < b) b → ¬ b = E.Q):=fun b hb e => by have h1:=hE.old;have h2 : w.heap.size < b:=hb;omega
 obtain ⟨o9,ho9⟩:=oZ
 have hb0:=bl w o9
 have HS:=Lib.hid (h.below hb0)
 have HT:=Lib.hid (Turned.of_below (fun b => b = E.Q) hb0)
 have HX:=zB w
 have HZ:=zN w o9
 subst ho9
 clear h hE hb0
 go_enter Tryz.func113,Tryz.ntmps113
 go_wp2_with fail
 generalize (w.alloc (.cells #[.int .i64 0,.string ⟨#[]⟩,.int .i64 0,.slice none 0 0] 24)) = w1 at *
 refine ((ihS E) _ _ HS.out (fun h => HO.out (HR.out.trans (bind_out h)))).mono ?_
 rintro e w2 hq9
 rcases hq9.two (fun h => HO.out (HR.out.trans (bind_out h))) with ⟨n_n,s3,x_n,hr9,rfl,ht9,hs9,hi9⟩ | ⟨c9,p9,x_n,hr9,rfl,ht9,hs9⟩
 ·replace HR:=Lib.hid (HR.out.trans (bind_ok hr9))
  clear hr9 hq9
  have T_n:=Lib.hid (hi9.weak (S':=(fun b => w.heap.size < b)) (fun b hb h => Nat.lt_of_lt_of_le HZ.out h))
  clear hi9
  replace HX:=bT HX ht9 NE
  replace HZ:=zT HZ ht9
  replace HT:=tT HT ht9
  replace HS:=Lib.hid hs9
  clear ht9 hs9
  have NE_n:=nE HQ HZ
  have HB_n:=nB w2 x_n
  obtain ⟨o9,ho9⟩:=oN x_n
  replace HX:=bA HX o9
  replace T_n:=nA T_n o9
  replace HS:=Lib.hid (HS.out.below (bl _ o9))
  replace HT:=tA HT o9
  replace HZ:=zA HZ o9
  subst ho9
  have hs9:=HS.out
  have hr:=HR.out
  try dsimp only at hr
  cases h9 : seesP E.L ⟨#[60]⟩ s3
  ·rw [if_neg (by rw [h9];decide)] at hr
   have H1:=Lib.hid h9
   replace HR:=Lib.hid hr
   clear h9 hr hs9
   have hs9:=HS.out
   have hr:=HR.out
   try dsimp only at hr
   cases h9 : seesP E.L ⟨#[61,61]⟩ s3
   ·rw [if_neg (by rw [h9];decide)] at hr
    have H2:=Lib.hid h9
    replace HR:=Lib.hid hr
    clear h9 hr hs9
    go_wp2_with fail
    (try rw [← (show (World.alloc w2 (.cells #[.int .i64 x_n.kind,.string x_n.text,.int .i64 x_n.num,.slice x_n.a x_n.len x_n.cap] 24)).heap.size = _ from World.size_alloc _ _)])
    generalize (World.alloc w2 (.cells #[.int .i64 x_n.kind,.string x_n.text,.int .i64 x_n.num,.slice x_n.a x_n.len x_n.cap] 24)) = w4 at *
    refine (rbegins_n HS.out H1.out).mono ?_
    rintro e w5 ⟨rfl,ht9,hs9⟩
    replace HX:=bT HX ht9 NE
    replace HB_n:=bT HB_n ht9 NE_n
    replace T_n:=nT T_n ht9 NS
    replace HZ:=zT HZ ht9
    replace HT:=tT HT ht9
    replace HS:=Lib.hid hs9
    clear ht9 hs9
    go_wp2_with fail
    refine (rbegins_n HS.out H2.out).mono ?_
    rintro e w6 ⟨rfl,ht9,hs9⟩
    replace HX:=bT HX ht9 NE
    replace HB_n:=bT HB_n ht9 NE_n
    replace T_n:=nT T_n ht9 NS
    replace HZ:=zT HZ ht9
    replace HT:=tT HT ht9
    replace HS:=Lib.hid hs9
    clear ht9 hs9
    obtain ⟨u0X,u1X,u2X,u3X,g0X,g1X,g2X,g3X,glX⟩:=HX.out.f4
    obtain ⟨u0n,u1n,u2n,u3n,g0n,g1n,g2n,g3n,gln⟩:=HB_n.out.f4
    go_wp2_with fail
    clear u0X u1X u2X u3X g0X g1X g2X g3X glX u0n u1n u2n u3n g0n g1n g2n g3n gln
    refine open_post (EndG w E _ x_n n_n) (end_good HE.out HQ.out HT.out HS.out HX.out (x:=x_n) (n:=n_n) T_n.out (S:=(fun b => w.heap.size < b)) (fun b h => h)) ?_
    rintro W hE
    obtain ⟨v0,v1,v2,v3,-⟩:=hE.blk.f4
    exact bodyPost_ret (v:=nvA x_n) (by simp [results,Tryz.results113,go_sem,v0,v1,v2,v3]) rfl (hE.done HR.out)
   ·rw [if_pos h9] at hr
    have H2:=Lib.hid h9
    replace HR:=Lib.hid hr
    clear h9 hr hs9
    go_wp2_with fail
    (try rw [← (show (World.alloc w2 (.cells #[.int .i64 x_n.kind,.string x_n.text,.int .i64 x_n.num,.slice x_n.a x_n.len x_n.cap] 24)).heap.size = _ from World.size_alloc _ _)])
    generalize (World.alloc w2 (.cells #[.int .i64 x_n.kind,.string x_n.text,.int .i64 x_n.num,.slice x_n.a x_n.len x_n.cap] 24)) = w7 at *
    refine (rbegins_n HS.out H1.out).mono ?_
    rintro e w8 ⟨rfl,ht9,hs9⟩
    replace HX:=bT HX ht9 NE
    replace HB_n:=bT HB_n ht9 NE_n
    replace T_n:=nT T_n ht9 NS
    replace HZ:=zT HZ ht9
    replace HT:=tT HT ht9
    replace HS:=Lib.hid hs9
    clear ht9 hs9
    go_wp2_with fail
    refine (rbegins_y HS.out H2.out).mono ?_
    rintro e w9 ⟨rfl,ht9,hs9⟩
    replace HX:=bT HX ht9 NE
    replace HB_n:=bT HB_n ht9 NE_n
    replace T_n:=nT T_n ht9 NS
    replace HZ:=zT HZ ht9
    replace HT:=tT HT ht9
    replace HS:=Lib.hid hs9
    clear ht9 hs9
    go_wp2_with fail
    refine ((ihS E) _ _ HS.out (fun h => HO.out (HR.out.trans (bind_out h)))).mono ?_
    rintro e w10 hq9
    rcases hq9.two (fun h => HO.out (HR.out.trans (bind_out h))) with ⟨n_k,s11,x_k,hr9,rfl,ht9,hs9,hi9⟩ | ⟨c9,p9,x_k,hr9,rfl,ht9,hs9⟩
    ·replace HR:=Lib.hid (HR.out.trans (bind_ok hr9))
     clear hr9 hq9
     have T_k:=Lib.hid (hi9.weak (S':=(fun b => w.heap.size < b)) (fun b hb h => Nat.lt_of_lt_of_le HZ.out h))
     clear hi9
     replace HX:=bT HX ht9 NE
     replace HB_n:=bT HB_n ht9 NE_n
     replace T_n:=nT T_n ht9 NS
     replace HZ:=zT HZ ht9
     replace HT:=tT HT ht9
     replace HS:=Lib.hid hs9
     clear ht9 hs9
     obtain ⟨u0n,u1n,u2n,u3n,g0n,g1n,g2n,g3n,gln⟩:=HB_n.out.f4
     have NE_k:=nE HQ HZ
     have HB_k:=nB w10 x_k
     obtain ⟨o9,ho9⟩:=oN x_k
     replace HX:=bA HX o9
     replace HB_n:=bA HB_n o9
     replace T_n:=nA T_n o9
     replace T_k:=nA T_k o9
     replace HS:=Lib.hid (HS.out.below (bl _ o9))
     replace HT:=tA HT o9
     replace HZ:=zA HZ o9
     subst ho9
     go_wp2_with fail
     clear u0n u1n u2n u3n g0n g1n g2n g3n gln
     (try rw [← (show (World.alloc w10 (.cells #[.int .i64 x_k.kind,.string x_k.text,.int .i64 x_k.num,.slice x_k.a x_k.len x_k.cap] 24)).heap.size = _ from World.size_alloc _ _)])
     generalize (World.alloc w10 (.cells #[.int .i64 x_k.kind,.string x_k.text,.int .i64 x_k.num,.slice x_k.a x_k.len x_k.cap] 24)) = w12 at *
     have HZ0:=HZ
     obtain ⟨o9,ho9⟩:=oNN x_n x_k
     replace HX:=bA HX o9
     replace HB_n:=bA HB_n o9
     replace HB_k:=bA HB_k o9
     replace T_n:=nA T_n o9
     replace T_k:=nA T_k o9
     replace HS:=Lib.hid (HS.out.below (bl _ o9))
     replace HT:=tA HT o9
     replace HZ:=zA HZ o9
     subst ho9
     obtain ⟨A9,c9,e9,-,hn9⟩:=(OwnN.new w12 0 [x_n,x_k] (by simp) (by simp) (Nat.zero_le _) #[.int .i64 x_n.kind,.string x_n.text,.int .i64 x_n.num,.slice x_n.a x_n.len x_n.cap,.int .i64 x_k.kind,.string x_k.text,.int .i64 x_k.num,.slice x_k.a x_k.len x_k.cap] rfl).nodes (S':=(fun b => w.heap.size < b)) (AllN.two T_n.out T_k.out) (fun b h => h) (fun k hk => by cases hk;exact (show w.heap.size < (World.heap w12).size from HZ0.out))
     cases e9
     have KN:=Lib.hid hn9
     clear hn9
     refine (rnode_any (r:=.ok nd0 _) 19 _ _ _ _ HS.out).mono ?_
     rintro e w13 ⟨rfl,ht9,hs9⟩
     have hs9 : RGood _ _ _:=hs9 nd0
     replace KN:=Lib.hid (KN.out.kept ht9.size (fun b hb hs => ht9.block b hb (NS.out b hs)) (fun b _ h => h))
     replace HX:=bT HX ht9 NE
     replace HB_n:=bT HB_n ht9 NE_n
     replace HB_k:=bT HB_k ht9 NE_k
     replace T_n:=nT T_n ht9 NS
     replace T_k:=nT T_k ht9 NS
     replace HZ:=zT HZ ht9
     replace HT:=tT HT ht9
     replace HS:=Lib.hid hs9
     clear ht9 hs9
     obtain ⟨u0X,u1X,u2X,u3X,g0X,g1X,g2X,g3X,glX⟩:=HX.out.f4
     go_wp2_with fail
     clear u0X u1X u2X u3X g0X g1X g2X g3X glX
     refine open_post (EndG w E _ ⟨19,⟨#[]⟩,0,(some ⟨(World.heap w12).size,0,none⟩),2,2⟩ (.mk 19 ⟨#[]⟩ 0 [n_n,n_k])) (end_good HE.out HQ.out HT.out HS.out HX.out (x:=⟨19,⟨#[]⟩,0,(some ⟨(World.heap w12).size,0,none⟩),2,2⟩) (n:=(.mk 19 ⟨#[]⟩ 0 [n_n,n_k])) ⟨⟨rfl,rfl,rfl,rfl⟩,KN.out⟩ (S:=(fun b => w.heap.size < b)) (fun b h => h)) ?_
     rintro W hE
     obtain ⟨v0,v1,v2,v3,-⟩:=hE.blk.f4
     exact bodyPost_ret (v:=nvA ⟨19,⟨#[]⟩,0,(some ⟨(World.heap w12).size,0,none⟩),2,2⟩) (by simp [results,Tryz.results113,go_sem,v0,v1,v2,v3]) rfl (hE.done HR.out)
    ·replace HR:=Lib.hid (HR.out.trans (bind_no hr9))
     clear hr9 hq9
     replace HX:=bT HX ht9 NE
     replace HB_n:=bT HB_n ht9 NE_n
     replace HZ:=zT HZ ht9
     replace HT:=tT HT ht9
     replace HS:=Lib.hid hs9
     clear ht9 hs9
     obtain ⟨u0n,u1n,u2n,u3n,g0n,g1n,g2n,g3n,gln⟩:=HB_n.out.f4
     have NE_k:=nE HQ HZ
     have HB_k:=nB w10 x_k
     obtain ⟨o9,ho9⟩:=oN x_k
     replace HX:=bA HX o9
     replace HB_n:=bA HB_n o9
     replace HS:=Lib.hid (HS.out.below (bl _ o9))
     replace HT:=tA HT o9
     replace HZ:=zA HZ o9
     subst ho9
     go_wp2_with fail
     clear u0n u1n u2n u3n g0n g1n g2n g3n gln
     (try rw [← (show (World.alloc w10 (.cells #[.int .i64 x_k.kind,.string x_k.text,.int .i64 x_k.num,.slice x_k.a x_k.len x_k.cap] 24)).heap.size = _ from World.size_alloc _ _)])
     generalize (World.alloc w10 (.cells #[.int .i64 x_k.kind,.string x_k.text,.int .i64 x_k.num,.slice x_k.a x_k.len x_k.cap] 24)) = w14 at *
     have HZ0:=HZ
     obtain ⟨o9,ho9⟩:=oNN x_n x_k
     replace HX:=bA HX o9
     replace HB_n:=bA HB_n o9
     replace HB_k:=bA HB_k o9
     replace HS:=Lib.hid (HS.out.below (bl _ o9))
     replace HT:=tA HT o9
     replace HZ:=zA HZ o9
     subst ho9
     refine (rnode_bad HS.out 19 _ _ _ _).mono ?_
     rintro e w15 ⟨rfl,ht9,hs9⟩
     replace HX:=bT HX ht9 NE
     replace HB_n:=bT HB_n ht9 NE_n
     replace HB_k:=bT HB_k ht9 NE_k
     replace HZ:=zT HZ ht9
     replace HT:=tT HT ht9
     replace HS:=Lib.hid hs9
     clear ht9 hs9
     obtain ⟨u0X,u1X,u2X,u3X,g0X,g1X,g2X,g3X,glX⟩:=HX.out.f4
     go_wp2_with fail
     clear u0X u1X u2X u3X g0X g1X g2X g3X glX
     refine open_post (EndB w E _ _ _) (end_bad HE.out HQ.out HT.out HS.out HX.out (x:=⟨_,_,_,_,_,_⟩)) ?_
     rintro W hE
     obtain ⟨v0,v1,v2,v3,-⟩:=hE.blk.f4
     exact bodyPost_ret (v:=nvA ⟨_,_,_,_,_,_⟩) (by simp [results,Tryz.results113,go_sem,v0,v1,v2,v3]) rfl (hE.done HR.out)
  ·rw [if_pos h9] at hr
   have H1:=Lib.hid h9
   replace HR:=Lib.hid hr
   clear h9 hr hs9
   go_wp2_with fail
   (try rw [← (show (World.alloc w2 (.cells #[.int .i64 x_n.kind,.string x_n.text,.int .i64 x_n.num,.slice x_n.a x_n.len x_n.cap] 24)).heap.size = _ from World.size_alloc _ _)])
   generalize (World.alloc w2 (.cells #[.int .i64 x_n.kind,.string x_n.text,.int .i64 x_n.num,.slice x_n.a x_n.len x_n.cap] 24)) = w16 at *
   refine (rbegins_y HS.out H1.out).mono ?_
   rintro e w17 ⟨rfl,ht9,hs9⟩
   replace HX:=bT HX ht9 NE
   replace HB_n:=bT HB_n ht9 NE_n
   replace T_n:=nT T_n ht9 NS
   replace HZ:=zT HZ ht9
   replace HT:=tT HT ht9
   replace HS:=Lib.hid hs9
   clear ht9 hs9
   go_wp2_with fail
   refine ((ihS E) _ _ HS.out (fun h => HO.out (HR.out.trans (bind_out h)))).mono ?_
   rintro e w18 hq9
   rcases hq9.two (fun h => HO.out (HR.out.trans (bind_out h))) with ⟨n_k,s19,x_k,hr9,rfl,ht9,hs9,hi9⟩ | ⟨c9,p9,x_k,hr9,rfl,ht9,hs9⟩
   ·replace HR:=Lib.hid (HR.out.trans (bind_ok hr9))
    clear hr9 hq9
    have T_k:=Lib.hid (hi9.weak (S':=(fun b => w.heap.size < b)) (fun b hb h => Nat.lt_of_lt_of_le HZ.out h))
    clear hi9
    replace HX:=bT HX ht9 NE
    replace HB_n:=bT HB_n ht9 NE_n
    replace T_n:=nT T_n ht9 NS
    replace HZ:=zT HZ ht9
    replace HT:=tT HT ht9
    replace HS:=Lib.hid hs9
    clear ht9 hs9
    obtain ⟨u0n,u1n,u2n,u3n,g0n,g1n,g2n,g3n,gln⟩:=HB_n.out.f4
    have NE_k:=nE HQ HZ
    have HB_k:=nB w18 x_k
    obtain ⟨o9,ho9⟩:=oN x_k
    replace HX:=bA HX o9
    replace HB_n:=bA HB_n o9
    replace T_n:=nA T_n o9
    replace T_k:=nA T_k o9
    replace HS:=Lib.hid (HS.out.below (bl _ o9))
    replace HT:=tA HT o9
    replace HZ:=zA HZ o9
    subst ho9
    go_wp2_with fail
    clear u0n u1n u2n u3n g0n g1n g2n g3n gln
    (try rw [← (show (World.alloc w18 (.cells #[.int .i64 x_k.kind,.string x_k.text,.int .i64 x_k.num,.slice x_k.a x_k.len x_k.cap] 24)).heap.size = _ from World.size_alloc _ _)])
    generalize (World.alloc w18 (.cells #[.int .i64 x_k.kind,.string x_k.text,.int .i64 x_k.num,.slice x_k.a x_k.len x_k.cap] 24)) = w20 at *
    have HZ0:=HZ
    obtain ⟨o9,ho9⟩:=oNN x_n x_k
    replace HX:=bA HX o9
    replace HB_n:=bA HB_n o9
    replace HB_k:=bA HB_k o9
    replace T_n:=nA T_n o9
    replace T_k:=nA T_k o9
    replace HS:=Lib.hid (HS.out.below (bl _ o9))
    replace HT:=tA HT o9
    replace HZ:=zA HZ o9
    subst ho9
    obtain ⟨A9,c9,e9,-,hn9⟩:=(OwnN.new w20 0 [x_n,x_k] (by simp) (by simp) (Nat.zero_le _) #[.int .i64 x_n.kind,.string x_n.text,.int .i64 x_n.num,.slice x_n.a x_n.len x_n.cap,.int .i64 x_k.kind,.string x_k.text,.int .i64 x_k.num,.slice x_k.a x_k.len x_k.cap] rfl).nodes (S':=(fun b => w.heap.size < b)) (AllN.two T_n.out T_k.out) (fun b h => h) (fun k hk => by cases hk;exact (show w.heap.size < (World.heap w20).size from HZ0.out))
    cases e9
    have KN:=Lib.hid hn9
    clear hn9
    refine (rnode_any (r:=.ok nd0 _) 18 _ _ _ _ HS.out).mono ?_
    rintro e w21 ⟨rfl,ht9,hs9⟩
    have hs9 : RGood _ _ _:=hs9 nd0
    replace KN:=Lib.hid (KN.out.kept ht9.size (fun b hb hs => ht9.block b hb (NS.out b hs)) (fun b _ h => h))
    replace HX:=bT HX ht9 NE
    replace HB_n:=bT HB_n ht9 NE_n
    replace HB_k:=bT HB_k ht9 NE_k
    replace T_n:=nT T_n ht9 NS
    replace T_k:=nT T_k ht9 NS
    replace HZ:=zT HZ ht9
    replace HT:=tT HT ht9
    replace HS:=Lib.hid hs9
    clear ht9 hs9
    obtain ⟨u0X,u1X,u2X,u3X,g0X,g1X,g2X,g3X,glX⟩:=HX.out.f4
    go_wp2_with fail
    clear u0X u1X u2X u3X g0X g1X g2X g3X glX
    refine open_post (EndG w E _ ⟨18,⟨#[]⟩,0,(some ⟨(World.heap w20).size,0,none⟩),2,2⟩ (.mk 18 ⟨#[]⟩ 0 [n_n,n_k])) (end_good HE.out HQ.out HT.out HS.out HX.out (x:=⟨18,⟨#[]⟩,0,(some ⟨(World.heap w20).size,0,none⟩),2,2⟩) (n:=(.mk 18 ⟨#[]⟩ 0 [n_n,n_k])) ⟨⟨rfl,rfl,rfl,rfl⟩,KN.out⟩ (S:=(fun b => w.heap.size < b)) (fun b h => h)) ?_
    rintro W hE
    obtain ⟨v0,v1,v2,v3,-⟩:=hE.blk.f4
    exact bodyPost_ret (v:=nvA ⟨18,⟨#[]⟩,0,(some ⟨(World.heap w20).size,0,none⟩),2,2⟩) (by simp [results,Tryz.results113,go_sem,v0,v1,v2,v3]) rfl (hE.done HR.out)
   ·replace HR:=Lib.hid (HR.out.trans (bind_no hr9))
    clear hr9 hq9
    replace HX:=bT HX ht9 NE
    replace HB_n:=bT HB_n ht9 NE_n
    replace HZ:=zT HZ ht9
    replace HT:=tT HT ht9
    replace HS:=Lib.hid hs9
    clear ht9 hs9
    obtain ⟨u0n,u1n,u2n,u3n,g0n,g1n,g2n,g3n,gln⟩:=HB_n.out.f4
    have NE_k:=nE HQ HZ
    have HB_k:=nB w18 x_k
    obtain ⟨o9,ho9⟩:=oN x_k
    replace HX:=bA HX o9
    replace HB_n:=bA HB_n o9
    replace HS:=Lib.hid (HS.out.below (bl _ o9))
    replace HT:=tA HT o9
    replace HZ:=zA HZ o9
    subst ho9
    go_wp2_with fail
    clear u0n u1n u2n u3n g0n g1n g2n g3n gln
    (try rw [← (show (World.alloc w18 (.cells #[.int .i64 x_k.kind,.string x_k.text,.int .i64 x_k.num,.slice x_k.a x_k.len x_k.cap] 24)).heap.size = _ from World.size_alloc _ _)])
    generalize (World.alloc w18 (.cells #[.int .i64 x_k.kind,.string x_k.text,.int .i64 x_k.num,.slice x_k.a x_k.len x_k.cap] 24)) = w22 at *
    have HZ0:=HZ
    obtain ⟨o9,ho9⟩:=oNN x_n x_k
    replace HX:=bA HX o9
    replace HB_n:=bA HB_n o9
    replace HB_k:=bA HB_k o9
    replace HS:=Lib.hid (HS.out.below (bl _ o9))
    replace HT:=tA HT o9
    replace HZ:=zA HZ o9
    subst ho9
    refine (rnode_bad HS.out 18 _ _ _ _).mono ?_
    rintro e w23 ⟨rfl,ht9,hs9⟩
    replace HX:=bT HX ht9 NE
    replace HB_n:=bT HB_n ht9 NE_n
    replace HB_k:=bT HB_k ht9 NE_k
    replace HZ:=zT HZ ht9
    replace HT:=tT HT ht9
    replace HS:=Lib.hid hs9
    clear ht9 hs9
    obtain ⟨u0X,u1X,u2X,u3X,g0X,g1X,g2X,g3X,glX⟩:=HX.out.f4
    go_wp2_with fail
    clear u0X u1X u2X u3X g0X g1X g2X g3X glX
    refine open_post (EndB w E _ _ _) (end_bad HE.out HQ.out HT.out HS.out HX.out (x:=⟨_,_,_,_,_,_⟩)) ?_
    rintro W hE
    obtain ⟨v0,v1,v2,v3,-⟩:=hE.blk.f4
    exact bodyPost_ret (v:=nvA ⟨_,_,_,_,_,_⟩) (by simp [results,Tryz.results113,go_sem,v0,v1,v2,v3]) rfl (hE.done HR.out)
 ·replace HR:=Lib.hid (HR.out.trans (bind_no hr9))
  clear hr9 hq9
  replace HX:=bT HX ht9 NE
  replace HZ:=zT HZ ht9
  replace HT:=tT HT ht9
  replace HS:=Lib.hid hs9
  clear ht9 hs9
  have NE_n:=nE HQ HZ
  have HB_n:=nB w2 x_n
  obtain ⟨o9,ho9⟩:=oN x_n
  replace HX:=bA HX o9
  replace HS:=Lib.hid (HS.out.below (bl _ o9))
  replace HT:=tA HT o9
  replace HZ:=zA HZ o9
  subst ho9
  go_wp2_with fail
  (try rw [← (show (World.alloc w2 (.cells #[.int .i64 x_n.kind,.string x_n.text,.int .i64 x_n.num,.slice x_n.a x_n.len x_n.cap] 24)).heap.size = _ from World.size_alloc _ _)])
  generalize (World.alloc w2 (.cells #[.int .i64 x_n.kind,.string x_n.text,.int .i64 x_n.num,.slice x_n.a x_n.len x_n.cap] 24)) = w24 at *
  refine (rbegins_bad HS.out _).mono ?_
  rintro e w25 ⟨rfl,ht9,hs9⟩
  replace HX:=bT HX ht9 NE
  replace HB_n:=bT HB_n ht9 NE_n
  replace HZ:=zT HZ ht9
  replace HT:=tT HT ht9
  replace HS:=Lib.hid hs9
  clear ht9 hs9
  go_wp2_with fail
  refine (rbegins_bad HS.out _).mono ?_
  rintro e w26 ⟨rfl,ht9,hs9⟩
  replace HX:=bT HX ht9 NE
  replace HB_n:=bT HB_n ht9 NE_n
  replace HZ:=zT HZ ht9
  replace HT:=tT HT ht9
  replace HS:=Lib.hid hs9
  clear ht9 hs9
  obtain ⟨u0X,u1X,u2X,u3X,g0X,g1X,g2X,g3X,glX⟩:=HX.out.f4
  obtain ⟨u0n,u1n,u2n,u3n,g0n,g1n,g2n,g3n,gln⟩:=HB_n.out.f4
  go_wp2_with fail
  clear u0X u1X u2X u3X g0X g1X g2X g3X glX u0n u1n u2n u3n g0n g1n g2n g3n gln
  refine open_post (EndB w E _ _ _) (end_bad HE.out HQ.out HT.out HS.out HX.out (x:=⟨_,_,_,_,_,_⟩)) ?_
  rintro W hE
  obtain ⟨v0,v1,v2,v3,-⟩:=hE.blk.f4
  exact bodyPost_ret (v:=nvA ⟨_,_,_,_,_,_⟩) (by simp [results,Tryz.results113,go_sem,v0,v1,v2,v3]) rfl (hE.done HR.out)
def withP (L : List Tok) (e f : Nat) (k : Int) (s : PS) : Res:=(nameP L e s).bind fun t s => (wantP L e (tx "=") s).bind fun _ s => (run L e f .expr s).bind fun n s => (wantP L e (tx ";") s).bind fun _ s => nodeP k t.text 0 [n] s
set_option maxRecDepth 100000 in
set_option maxHeartbeats 1600000 in
theorem rwith_any {f : Nat} (ihX : RCall f .expr 113) (bdX : RFlat 113) {E : Env} {s : PS} {w : World} (k : Int) (h : RGood w E s) (hout : withP E.L E.e f k s ≠ .out) : Calls Tryz.prog 112 #[.pointer (some ⟨E.Q,0,none⟩),.int .i64 k] w (REnd E (withP E.L E.e f k s) w):=by
 have hE : RAt w E (.ok nd0 s):=h
 have HO:=Lib.hid hout
 generalize hrr : withP E.L E.e f k s = rr at *
 have hr:=hrr.symm
 simp only [withP,nodeP,tx_semi,tx_eq,] at hr
 have HR:=Lib.hid hr
 clear hrr hr hout
 have HE:=Lib.hid hE.env
 have HQ:=Lib.hid hE.old
 have NE : Hid (¬ w.heap.size = E.Q):=by have:=hE.old;show ¬ _;omega
 have NS : Hid (∀ b,(fun b => w.heap.size < b) b → ¬ b = E.Q):=fun b hb e => by have h1:=hE.old;have h2 : w.heap.size < b:=hb;omega
 obtain ⟨o9,ho9⟩:=oZ
 have hb0:=bl w o9
 have HS:=Lib.hid (h.below hb0)
 have HT:=Lib.hid (Turned.of_below (fun b => b = E.Q) hb0)
 have HX:=zB w
 have HZ:=zN w o9
 subst ho9
 clear h hE hb0
 go_enter Tryz.func112,Tryz.ntmps112
 go_wp2_with fail
 generalize (w.alloc (.cells #[.int .i64 0,.string ⟨#[]⟩,.int .i64 0,.slice none 0 0] 24)) = w1 at *
 refine (rname_two HS.out).mono ?_
 rintro e w2 ⟨ht9,(⟨t,s3,hr9,rfl,hs9⟩ | ⟨c9,p9,hr9,rfl,hs9⟩)⟩
 ·replace HR:=Lib.hid (HR.out.trans (bind_ok hr9))
  clear hr9
  replace HX:=bT HX ht9 NE
  replace HZ:=zT HZ ht9
  replace HT:=tT HT ht9
  replace HS:=Lib.hid hs9
  clear ht9 hs9
  go_wp2_with fail
  refine (rwant_two HS.out _).mono ?_
  rintro e w4 ⟨rfl,ht9,(⟨m9,s5,hr9,hs9⟩ | ⟨c9,p9,hr9,hs9⟩)⟩
  ·replace HR:=Lib.hid (HR.out.trans (bind_ok hr9))
   clear hr9
   replace HX:=bT HX ht9 NE
   replace HZ:=zT HZ ht9
   replace HT:=tT HT ht9
   replace HS:=Lib.hid hs9
   clear ht9 hs9
   go_wp2_with fail
   refine ((ihX E) _ _ HS.out (fun h => HO.out (HR.out.trans (bind_out h)))).mono ?_
   rintro e w6 hq9
   rcases hq9.two (fun h => HO.out (HR.out.trans (bind_out h))) with ⟨n_k,s7,x_k,hr9,rfl,ht9,hs9,hi9⟩ | ⟨c9,p9,x_k,hr9,rfl,ht9,hs9⟩
   ·replace HR:=Lib.hid (HR.out.trans (bind_ok hr9))
    clear hr9 hq9
    have T_k:=Lib.hid (hi9.weak (S':=(fun b => w.heap.size < b)) (fun b hb h => Nat.lt_of_lt_of_le HZ.out h))
    clear hi9
    replace HX:=bT HX ht9 NE
    replace HZ:=zT HZ ht9
    replace HT:=tT HT ht9
    replace HS:=Lib.hid hs9
    clear ht9 hs9
    have NE_k:=nE HQ HZ
    have HB_k:=nB w6 x_k
    obtain ⟨o9,ho9⟩:=oN x_k
    replace HX:=bA HX o9
    replace T_k:=nA T_k o9
    replace HS:=Lib.hid (HS.out.below (bl _ o9))
    replace HT:=tA HT o9
    replace HZ:=zA HZ o9
    subst ho9
    go_wp2_with fail
    (try rw [← (show (World.alloc w6 (.cells #[.int .i64 x_k.kind,.string x_k.text,.int .i64 x_k.num,.slice x_k.a x_k.len x_k.cap] 24)).heap.size = _ from World.size_alloc _ _)])
    generalize (World.alloc w6 (.cells #[.int .i64 x_k.kind,.string x_k.text,.int .i64 x_k.num,.slice x_k.a x_k.len x_k.cap] 24)) = w8 at *
    refine (rwant_two HS.out _).mono ?_
    rintro e w9 ⟨rfl,ht9,(⟨m9,s10,hr9,hs9⟩ | ⟨c9,p9,hr9,hs9⟩)⟩
    ·replace HR:=Lib.hid (HR.out.trans (bind_ok hr9))
     clear hr9
     replace HX:=bT HX ht9 NE
     replace HB_k:=bT HB_k ht9 NE_k
     replace T_k:=nT T_k ht9 NS
     replace HZ:=zT HZ ht9
     replace HT:=tT HT ht9
     replace HS:=Lib.hid hs9
     clear ht9 hs9
     obtain ⟨u0k,u1k,u2k,u3k,g0k,g1k,g2k,g3k,glk⟩:=HB_k.out.f4
     go_wp2_with fail
     clear u0k u1k u2k u3k g0k g1k g2k g3k glk
     have HZ0:=HZ
     obtain ⟨o9,ho9⟩:=oN x_k
     replace HX:=bA HX o9
     replace HB_k:=bA HB_k o9
     replace T_k:=nA T_k o9
     replace HS:=Lib.hid (HS.out.below (bl _ o9))
     replace HT:=tA HT o9
     replace HZ:=zA HZ o9
     subst ho9
     obtain ⟨A9,c9,e9,-,hn9⟩:=(OwnN.new w9 0 [x_k] (by simp) (by simp) (Nat.zero_le _) #[.int .i64 x_k.kind,.string x_k.text,.int .i64 x_k.num,.slice x_k.a x_k.len x_k.cap] rfl).nodes (S':=(fun b => w.heap.size < b)) (AllN.one T_k.out) (fun b h => h) (fun k hk => by cases hk;exact (show w.heap.size < (World.heap w9).size from HZ0.out))
     cases e9
     have KN:=Lib.hid hn9
     clear hn9
     refine (rnode_any (r:=.ok nd0 _) k t.text _ _ _ HS.out).mono ?_
     rintro e w11 ⟨rfl,ht9,hs9⟩
     have hs9 : RGood _ _ _:=hs9 nd0
     replace KN:=Lib.hid (KN.out.kept ht9.size (fun b hb hs => ht9.block b hb (NS.out b hs)) (fun b _ h => h))
     replace HX:=bT HX ht9 NE
     replace HB_k:=bT HB_k ht9 NE_k
     replace T_k:=nT T_k ht9 NS
     replace HZ:=zT HZ ht9
     replace HT:=tT HT ht9
     replace HS:=Lib.hid hs9
     clear ht9 hs9
     obtain ⟨u0X,u1X,u2X,u3X,g0X,g1X,g2X,g3X,glX⟩:=HX.out.f4
     go_wp2_with fail
     clear u0X u1X u2X u3X g0X g1X g2X g3X glX
     refine open_post (EndG w E _ ⟨k,t.text,0,(some ⟨(World.heap w9).size,0,none⟩),1,1⟩ (.mk k t.text 0 [n_k])) (end_good HE.out HQ.out HT.out HS.out HX.out (x:=⟨k,t.text,0,(some ⟨(World.heap w9).size,0,none⟩),1,1⟩) (n:=(.mk k t.text 0 [n_k])) ⟨⟨rfl,rfl,rfl,rfl⟩,KN.out⟩ (S:=(fun b => w.heap.size < b)) (fun b h => h)) ?_
     rintro W hE
     obtain ⟨v0,v1,v2,v3,-⟩:=hE.blk.f4
     exact bodyPost_ret (v:=nvA ⟨k,t.text,0,(some ⟨(World.heap w9).size,0,none⟩),1,1⟩) (by simp [results,Tryz.results112,go_sem,v0,v1,v2,v3]) rfl (hE.done HR.out)
    ·replace HR:=Lib.hid (HR.out.trans (bind_no hr9))
     clear hr9
     replace HX:=bT HX ht9 NE
     replace HB_k:=bT HB_k ht9 NE_k
     replace HZ:=zT HZ ht9
     replace HT:=tT HT ht9
     replace HS:=Lib.hid hs9
     clear ht9 hs9
     obtain ⟨u0k,u1k,u2k,u3k,g0k,g1k,g2k,g3k,glk⟩:=HB_k.out.f4
     go_wp2_with fail
     clear u0k u1k u2k u3k g0k g1k g2k g3k glk
     have HZ0:=HZ
     obtain ⟨o9,ho9⟩:=oN x_k
     replace HX:=bA HX o9
     replace HB_k:=bA HB_k o9
     replace HS:=Lib.hid (HS.out.below (bl _ o9))
     replace HT:=tA HT o9
     replace HZ:=zA HZ o9
     subst ho9
     refine (rnode_bad HS.out k _ _ _ _).mono ?_
     rintro e w12 ⟨rfl,ht9,hs9⟩
     replace HX:=bT HX ht9 NE
     replace HB_k:=bT HB_k ht9 NE_k
     replace HZ:=zT HZ ht9
     replace HT:=tT HT ht9
     replace HS:=Lib.hid hs9
     clear ht9 hs9
     obtain ⟨u0X,u1X,u2X,u3X,g0X,g1X,g2X,g3X,glX⟩:=HX.out.f4
     go_wp2_with fail
     clear u0X u1X u2X u3X g0X g1X g2X g3X glX
     refine open_post (EndB w E _ _ _) (end_bad HE.out HQ.out HT.out HS.out HX.out (x:=⟨_,_,_,_,_,_⟩)) ?_
     rintro W hE
     obtain ⟨v0,v1,v2,v3,-⟩:=hE.blk.f4
     exact bodyPost_ret (v:=nvA ⟨_,_,_,_,_,_⟩) (by simp [results,Tryz.results112,go_sem,v0,v1,v2,v3]) rfl (hE.done HR.out)
   ·replace HR:=Lib.hid (HR.out.trans (bind_no hr9))
    clear hr9 hq9
    replace HX:=bT HX ht9 NE
    replace HZ:=zT HZ ht9
    replace HT:=tT HT ht9
    replace HS:=Lib.hid hs9
    clear ht9 hs9
    have NE_k:=nE HQ HZ
    have HB_k:=nB w6 x_k
    obtain ⟨o9,ho9⟩:=oN x_k
    replace HX:=bA HX o9
    replace HS:=Lib.hid (HS.out.below (bl _ o9))
    replace HT:=tA HT o9
    replace HZ:=zA HZ o9
    subst ho9
    go_wp2_with fail
    (try rw [← (show (World.alloc w6 (.cells #[.int .i64 x_k.kind,.string x_k.text,.int .i64 x_k.num,.slice x_k.a x_k.len x_k.cap] 24)).heap.size = _ from World.size_alloc _ _)])
    generalize (World.alloc w6 (.cells #[.int .i64 x_k.kind,.string x_k.text,.int .i64 x_k.num,.slice x_k.a x_k.len x_k.cap] 24)) = w13 at *
    refine (rwant_bad HS.out _).mono ?_
    rintro e w14 ⟨rfl,ht9,hs9⟩
    replace HX:=bT HX ht9 NE
    replace HB_k:=bT HB_k ht9 NE_k
    replace HZ:=zT HZ ht9
    replace HT:=tT HT ht9
    replace HS:=Lib.hid hs9
    clear ht9 hs9
    obtain ⟨u0k,u1k,u2k,u3k,g0k,g1k,g2k,g3k,glk⟩:=HB_k.out.f4
    go_wp2_with fail
    clear u0k u1k u2k u3k g0k g1k g2k g3k glk
    have HZ0:=HZ
    obtain ⟨o9,ho9⟩:=oN x_k
    replace HX:=bA HX o9
    replace HB_k:=bA HB_k o9
    replace HS:=Lib.hid (HS.out.below (bl _ o9))
    replace HT:=tA HT o9
    replace HZ:=zA HZ o9
    subst ho9
    refine (rnode_bad HS.out k _ _ _ _).mono ?_
    rintro e w15 ⟨rfl,ht9,hs9⟩
    replace HX:=bT HX ht9 NE
    replace HB_k:=bT HB_k ht9 NE_k
    replace HZ:=zT HZ ht9
    replace HT:=tT HT ht9
    replace HS:=Lib.hid hs9
    clear ht9 hs9
    obtain ⟨u0X,u1X,u2X,u3X,g0X,g1X,g2X,g3X,glX⟩:=HX.out.f4
    go_wp2_with fail
    clear u0X u1X u2X u3X g0X g1X g2X g3X glX
    refine open_post (EndB w E _ _ _) (end_bad HE.out HQ.out HT.out HS.out HX.out (x:=⟨_,_,_,_,_,_⟩)) ?_
    rintro W hE
    obtain ⟨v0,v1,v2,v3,-⟩:=hE.blk.f4
    exact bodyPost_ret (v:=nvA ⟨_,_,_,_,_,_⟩) (by simp [results,Tryz.results112,go_sem,v0,v1,v2,v3]) rfl (hE.done HR.out)
  ·replace HR:=Lib.hid (HR.out.trans (bind_no hr9))
   clear hr9
   replace HX:=bT HX ht9 NE
   replace HZ:=zT HZ ht9
   replace HT:=tT HT ht9
   replace HS:=Lib.hid hs9
   clear ht9 hs9
   go_wp2_with fail
   refine ((bdX E _ _ _) HS.out).mono ?_
   rintro e w16 ⟨x_k,rfl,ht9,hs9,-⟩
   have hs9 : RBad _ _ _ _:=hs9
   replace HX:=bT HX ht9 NE
   replace HZ:=zT HZ ht9
   replace HT:=tT HT ht9
   replace HS:=Lib.hid hs9
   clear ht9 hs9
   have NE_k:=nE HQ HZ
   have HB_k:=nB w16 x_k
   obtain ⟨o9,ho9⟩:=oN x_k
   replace HX:=bA HX o9
   replace HS:=Lib.hid (HS.out.below (bl _ o9))
   replace HT:=tA HT o9
   replace HZ:=zA HZ o9
   subst ho9
   go_wp2_with fail
   (try rw [← (show (World.alloc w16 (.cells #[.int .i64 x_k.kind,.string x_k.text,.int .i64 x_k.num,.slice x_k.a x_k.len x_k.cap] 24)).heap.size = _ from World.size_alloc _ _)])
   generalize (World.alloc w16 (.cells #[.int .i64 x_k.kind,.string x_k.text,.int .i64 x_k.num,.slice x_k.a x_k.len x_k.cap] 24)) = w18 at *
   refine (rwant_bad HS.out _).mono ?_
   rintro e w19 ⟨rfl,ht9,hs9⟩
   replace HX:=bT HX ht9 NE
   replace HB_k:=bT HB_k ht9 NE_k
   replace HZ:=zT HZ ht9
   replace HT:=tT HT ht9
   replace HS:=Lib.hid hs9
   clear ht9 hs9
   obtain ⟨u0k,u1k,u2k,u3k,g0k,g1k,g2k,g3k,glk⟩:=HB_k.out.f4
   go_wp2_with fail
   clear u0k u1k u2k u3k g0k g1k g2k g3k glk
   have HZ0:=HZ
   obtain ⟨o9,ho9⟩:=oN x_k
   replace HX:=bA HX o9
   replace HB_k:=bA HB_k o9
   replace HS:=Lib.hid (HS.out.below (bl _ o9))
   replace HT:=tA HT o9
   replace HZ:=zA HZ o9
   subst ho9
   refine (rnode_bad HS.out k _ _ _ _).mono ?_
   rintro e w20 ⟨rfl,ht9,hs9⟩
   replace HX:=bT HX ht9 NE
   replace HB_k:=bT HB_k ht9 NE_k
   replace HZ:=zT HZ ht9
   replace HT:=tT HT ht9
   replace HS:=Lib.hid hs9
   clear ht9 hs9
   obtain ⟨u0X,u1X,u2X,u3X,g0X,g1X,g2X,g3X,glX⟩:=HX.out.f4
   go_wp2_with fail
   clear u0X u1X u2X u3X g0X g1X g2X g3X glX
   refine open_post (EndB w E _ _ _) (end_bad HE.out HQ.out HT.out HS.out HX.out (x:=⟨_,_,_,_,_,_⟩)) ?_
   rintro W hE
   obtain ⟨v0,v1,v2,v3,-⟩:=hE.blk.f4
   exact bodyPost_ret (v:=nvA ⟨_,_,_,_,_,_⟩) (by simp [results,Tryz.results112,go_sem,v0,v1,v2,v3]) rfl (hE.done HR.out)
 ·replace HR:=Lib.hid (HR.out.trans (bind_no hr9))
  clear hr9
  replace HX:=bT HX ht9 NE
  replace HZ:=zT HZ ht9
  replace HT:=tT HT ht9
  replace HS:=Lib.hid hs9
  clear ht9 hs9
  go_wp2_with fail
  refine (rwant_bad HS.out _).mono ?_
  rintro e w21 ⟨rfl,ht9,hs9⟩
  replace HX:=bT HX ht9 NE
  replace HZ:=zT HZ ht9
  replace HT:=tT HT ht9
  replace HS:=Lib.hid hs9
  clear ht9 hs9
  go_wp2_with fail
  refine ((bdX E _ _ _) HS.out).mono ?_
  rintro e w22 ⟨x_k,rfl,ht9,hs9,-⟩
  have hs9 : RBad _ _ _ _:=hs9
  replace HX:=bT HX ht9 NE
  replace HZ:=zT HZ ht9
  replace HT:=tT HT ht9
  replace HS:=Lib.hid hs9
  clear ht9 hs9
  have NE_k:=nE HQ HZ
  have HB_k:=nB w22 x_k
  obtain ⟨o9,ho9⟩:=oN x_k
  replace HX:=bA HX o9
  replace HS:=Lib.hid (HS.out.below (bl _ o9))
  replace HT:=tA HT o9
  replace HZ:=zA HZ o9
  subst ho9
  go_wp2_with fail
  (try rw [← (show (World.alloc w22 (.cells #[.int .i64 x_k.kind,.string x_k.text,.int .i64 x_k.num,.slice x_k.a x_k.len x_k.cap] 24)).heap.size = _ from World.size_alloc _ _)])
  generalize (World.alloc w22 (.cells #[.int .i64 x_k.kind,.string x_k.text,.int .i64 x_k.num,.slice x_k.a x_k.len x_k.cap] 24)) = w24 at *
  refine (rwant_bad HS.out _).mono ?_
  rintro e w25 ⟨rfl,ht9,hs9⟩
  replace HX:=bT HX ht9 NE
  replace HB_k:=bT HB_k ht9 NE_k
  replace HZ:=zT HZ ht9
  replace HT:=tT HT ht9
  replace HS:=Lib.hid hs9
  clear ht9 hs9
  obtain ⟨u0k,u1k,u2k,u3k,g0k,g1k,g2k,g3k,glk⟩:=HB_k.out.f4
  go_wp2_with fail
  clear u0k u1k u2k u3k g0k g1k g2k g3k glk
  have HZ0:=HZ
  obtain ⟨o9,ho9⟩:=oN x_k
  replace HX:=bA HX o9
  replace HB_k:=bA HB_k o9
  replace HS:=Lib.hid (HS.out.below (bl _ o9))
  replace HT:=tA HT o9
  replace HZ:=zA HZ o9
  subst ho9
  refine (rnode_bad HS.out k _ _ _ _).mono ?_
  rintro e w26 ⟨rfl,ht9,hs9⟩
  replace HX:=bT HX ht9 NE
  replace HB_k:=bT HB_k ht9 NE_k
  replace HZ:=zT HZ ht9
  replace HT:=tT HT ht9
  replace HS:=Lib.hid hs9
  clear ht9 hs9
  obtain ⟨u0X,u1X,u2X,u3X,g0X,g1X,g2X,g3X,glX⟩:=HX.out.f4
  go_wp2_with fail
  clear u0X u1X u2X u3X g0X g1X g2X g3X glX
  refine open_post (EndB w E _ _ _) (end_bad HE.out HQ.out HT.out HS.out HX.out (x:=⟨_,_,_,_,_,_⟩)) ?_
  rintro W hE
  obtain ⟨v0,v1,v2,v3,-⟩:=hE.blk.f4
  exact bodyPost_ret (v:=nvA ⟨_,_,_,_,_,_⟩) (by simp [results,Tryz.results112,go_sem,v0,v1,v2,v3]) rfl (hE.done HR.out)
set_option maxRecDepth 100000 in
set_option maxHeartbeats 1600000 in
theorem rprimary_name {f : Nat} (ihX : RCall f .expr 113) (bdX : RFlat 113) {E : Env} {s : PS} {w : World} (h : RGood w E s) (hout : run E.L E.e (f + 1) .primary s ≠ .out) (a2 : isP E.L 2 s = false) (a1 : isP E.L 1 s = true) : Calls Tryz.prog 143 #[.pointer (some ⟨E.Q,0,none⟩)] w (REnd E (run E.L E.e (f + 1) .primary s) w):=by
 have hE : RAt w E (.ok nd0 s):=h
 have HO:=Lib.hid hout
 generalize hrr : run E.L E.e (f + 1) .primary s = rr at *
 have hr:=hrr.symm
 simp only [run,nodeP,tx_nil,tx_lp,tx_rp,tx_knil,tx_self,tx_gate,tx_new,a2,a1,if_true,if_false,Bool.false_eq_true] at hr
 have HR:=Lib.hid hr
 clear hrr hr hout
 have HE:=Lib.hid hE.env
 have HQ:=Lib.hid hE.old
 have NE : Hid (¬ w.heap.size = E.Q):=by have:=hE.old;show ¬ _;omega
 have NS : Hid (∀ b,(fun b => w.heap.size < b) b → ¬ b = E.Q):=fun b hb e => by have h1:=hE.old;have h2 : w.heap.size < b:=hb;omega
 obtain ⟨o9,ho9⟩:=oZ
 have hb0:=bl w o9
 have HS:=Lib.hid (h.below hb0)
 have HT:=Lib.hid (Turned.of_below (fun b => b = E.Q) hb0)
 have HX:=zB w
 have HZ:=zN w o9
 subst ho9
 clear h hE hb0
 go_enter Tryz.func143,Tryz.ntmps143
 have A2:=Lib.hid a2
 have A1:=Lib.hid a1
 clear a2 a1
 go_wp2_with fail
 generalize (w.alloc (.cells #[.int .i64 0,.string ⟨#[]⟩,.int .i64 0,.slice none 0 0] 24)) = w1 at *
 refine (ris_is HS.out A2.out).mono ?_
 rintro e w2 ⟨rfl,hb9⟩
 have ht9:=Turned.of_below (fun b => b = E.Q) hb9
 have hs9:=HS.out.below hb9
 clear hb9
 replace HX:=bT HX ht9 NE
 replace HZ:=zT HZ ht9
 replace HT:=tT HT ht9
 replace HS:=Lib.hid hs9
 clear ht9 hs9
 go_wp2_with fail
 refine (ris_is HS.out A1.out).mono ?_
 rintro e w3 ⟨rfl,hb9⟩
 have ht9:=Turned.of_below (fun b => b = E.Q) hb9
 have hs9:=HS.out.below hb9
 clear hb9
 replace HX:=bT HX ht9 NE
 replace HZ:=zT HZ ht9
 replace HT:=tT HT ht9
 replace HS:=Lib.hid hs9
 clear ht9 hs9
 replace HR:=Lib.hid (HR.out.trans (name_is (e:=E.e) (k:=fun t s => nodeP 31 t.text 0 [] s) A1.out).symm)
 go_wp2_with fail
 refine (rname_two HS.out).mono ?_
 rintro e w4 ⟨ht9,(⟨t,s5,hr9,rfl,hs9⟩ | ⟨c9,p9,hr9,rfl,hs9⟩)⟩
 ·replace HR:=Lib.hid (HR.out.trans (bind_ok hr9))
  clear hr9
  replace HX:=bT HX ht9 NE
  replace HZ:=zT HZ ht9
  replace HT:=tT HT ht9
  replace HS:=Lib.hid hs9
  clear ht9 hs9
  go_wp2_with fail
  have KN:=Lib.hid (Nodes.nil (w:=w4) (S:=(fun b => w.heap.size < b)) none)
  refine (rnode_any (r:=.ok nd0 _) 31 t.text _ _ _ HS.out).mono ?_
  rintro e w6 ⟨rfl,ht9,hs9⟩
  have hs9 : RGood _ _ _:=hs9 nd0
  replace KN:=Lib.hid (KN.out.kept ht9.size (fun b hb hs => ht9.block b hb (NS.out b hs)) (fun b _ h => h))
  replace HX:=bT HX ht9 NE
  replace HZ:=zT HZ ht9
  replace HT:=tT HT ht9
  replace HS:=Lib.hid hs9
  clear ht9 hs9
  obtain ⟨u0X,u1X,u2X,u3X,g0X,g1X,g2X,g3X,glX⟩:=HX.out.f4
  go_wp2_with fail
  clear u0X u1X u2X u3X g0X g1X g2X g3X glX
  refine open_post (EndG w E _ ⟨31,t.text,0,none,0,0⟩ (.mk 31 t.text 0 [])) (end_good HE.out HQ.out HT.out HS.out HX.out (x:=⟨31,t.text,0,none,0,0⟩) (n:=(.mk 31 t.text 0 [])) ⟨⟨rfl,rfl,rfl,rfl⟩,KN.out⟩ (S:=(fun b => w.heap.size < b)) (fun b h => h)) ?_
  rintro W hE
  obtain ⟨v0,v1,v2,v3,-⟩:=hE.blk.f4
  exact bodyPost_ret (v:=nvA ⟨31,t.text,0,none,0,0⟩) (by simp [results,Tryz.results143,go_sem,v0,v1,v2,v3]) rfl (hE.done HR.out)
 ·replace HR:=Lib.hid (HR.out.trans (bind_no hr9))
  clear hr9
  replace HX:=bT HX ht9 NE
  replace HZ:=zT HZ ht9
  replace HT:=tT HT ht9
  replace HS:=Lib.hid hs9
  clear ht9 hs9
  go_wp2_with fail
  refine (rnode_bad HS.out 31 _ _ _ _).mono ?_
  rintro e w7 ⟨rfl,ht9,hs9⟩
  replace HX:=bT HX ht9 NE
  replace HZ:=zT HZ ht9
  replace HT:=tT HT ht9
  replace HS:=Lib.hid hs9
  clear ht9 hs9
  obtain ⟨u0X,u1X,u2X,u3X,g0X,g1X,g2X,g3X,glX⟩:=HX.out.f4
  go_wp2_with fail
  clear u0X u1X u2X u3X g0X g1X g2X g3X glX
  refine open_post (EndB w E _ _ _) (end_bad HE.out HQ.out HT.out HS.out HX.out (x:=⟨_,_,_,_,_,_⟩)) ?_
  rintro W hE
  obtain ⟨v0,v1,v2,v3,-⟩:=hE.blk.f4
  exact bodyPost_ret (v:=nvA ⟨_,_,_,_,_,_⟩) (by simp [results,Tryz.results143,go_sem,v0,v1,v2,v3]) rfl (hE.done HR.out)
set_option maxRecDepth 100000 in
set_option maxHeartbeats 1600000 in
theorem rprimary_nil {f : Nat} (ihX : RCall f .expr 113) (bdX : RFlat 113) {E : Env} {s : PS} {w : World} (h : RGood w E s) (hout : run E.L E.e (f + 1) .primary s ≠ .out) (a2 : isP E.L 2 s = false) (a1 : isP E.L 1 s = false) (b0 : seesP E.L ⟨#[110,105,108]⟩ s = true) : Calls Tryz.prog 143 #[.pointer (some ⟨E.Q,0,none⟩)] w (REnd E (run E.L E.e (f + 1) .primary s) w):=by
 have hE : RAt w E (.ok nd0 s):=h
 have HO:=Lib.hid hout
 generalize hrr : run E.L E.e (f + 1) .primary s = rr at *
 have hr:=hrr.symm
 simp only [run,nodeP,tx_nil,tx_lp,tx_rp,tx_knil,tx_self,tx_gate,tx_new,a2,a1,b0,if_true,if_false,Bool.false_eq_true] at hr
 have HR:=Lib.hid hr
 clear hrr hr hout
 have HE:=Lib.hid hE.env
 have HQ:=Lib.hid hE.old
 have NE : Hid (¬ w.heap.size = E.Q):=by have:=hE.old;show ¬ _;omega
 have NS : Hid (∀ b,(fun b => w.heap.size < b) b → ¬ b = E.Q):=fun b hb e => by have h1:=hE.old;have h2 : w.heap.size < b:=hb;omega
 obtain ⟨o9,ho9⟩:=oZ
 have hb0:=bl w o9
 have HS:=Lib.hid (h.below hb0)
 have HT:=Lib.hid (Turned.of_below (fun b => b = E.Q) hb0)
 have HX:=zB w
 have HZ:=zN w o9
 subst ho9
 clear h hE hb0
 go_enter Tryz.func143,Tryz.ntmps143
 have A2:=Lib.hid a2
 have A1:=Lib.hid a1
 have B0:=Lib.hid b0
 clear a2 a1 b0
 go_wp2_with fail
 generalize (w.alloc (.cells #[.int .i64 0,.string ⟨#[]⟩,.int .i64 0,.slice none 0 0] 24)) = w1 at *
 refine (ris_is HS.out A2.out).mono ?_
 rintro e w2 ⟨rfl,hb9⟩
 have ht9:=Turned.of_below (fun b => b = E.Q) hb9
 have hs9:=HS.out.below hb9
 clear hb9
 replace HX:=bT HX ht9 NE
 replace HZ:=zT HZ ht9
 replace HT:=tT HT ht9
 replace HS:=Lib.hid hs9
 clear ht9 hs9
 go_wp2_with fail
 refine (ris_is HS.out A1.out).mono ?_
 rintro e w3 ⟨rfl,hb9⟩
 have ht9:=Turned.of_below (fun b => b = E.Q) hb9
 have hs9:=HS.out.below hb9
 clear hb9
 replace HX:=bT HX ht9 NE
 replace HZ:=zT HZ ht9
 replace HT:=tT HT ht9
 replace HS:=Lib.hid hs9
 clear ht9 hs9
 go_wp2_with fail
 refine (rbegins_y HS.out B0.out).mono ?_
 rintro e w4 ⟨rfl,ht9,hs9⟩
 replace HX:=bT HX ht9 NE
 replace HZ:=zT HZ ht9
 replace HT:=tT HT ht9
 replace HS:=Lib.hid hs9
 clear ht9 hs9
 go_wp2_with fail
 have KN:=Lib.hid (Nodes.nil (w:=w4) (S:=(fun b => w.heap.size < b)) none)
 refine (rnode_any (r:=.ok nd0 _) 27 _ _ _ _ HS.out).mono ?_
 rintro e w5 ⟨rfl,ht9,hs9⟩
 have hs9 : RGood _ _ _:=hs9 nd0
 replace KN:=Lib.hid (KN.out.kept ht9.size (fun b hb hs => ht9.block b hb (NS.out b hs)) (fun b _ h => h))
 replace HX:=bT HX ht9 NE
 replace HZ:=zT HZ ht9
 replace HT:=tT HT ht9
 replace HS:=Lib.hid hs9
 clear ht9 hs9
 obtain ⟨u0X,u1X,u2X,u3X,g0X,g1X,g2X,g3X,glX⟩:=HX.out.f4
 go_wp2_with fail
 clear u0X u1X u2X u3X g0X g1X g2X g3X glX
 refine open_post (EndG w E _ ⟨27,⟨#[]⟩,0,none,0,0⟩ (.mk 27 ⟨#[]⟩ 0 [])) (end_good HE.out HQ.out HT.out HS.out HX.out (x:=⟨27,⟨#[]⟩,0,none,0,0⟩) (n:=(.mk 27 ⟨#[]⟩ 0 [])) ⟨⟨rfl,rfl,rfl,rfl⟩,KN.out⟩ (S:=(fun b => w.heap.size < b)) (fun b h => h)) ?_
 rintro W hE
 obtain ⟨v0,v1,v2,v3,-⟩:=hE.blk.f4
 exact bodyPost_ret (v:=nvA ⟨27,⟨#[]⟩,0,none,0,0⟩) (by simp [results,Tryz.results143,go_sem,v0,v1,v2,v3]) rfl (hE.done HR.out)
set_option maxRecDepth 100000 in
set_option maxHeartbeats 1600000 in
theorem rprimary_self {f : Nat} (ihX : RCall f .expr 113) (bdX : RFlat 113) {E : Env} {s : PS} {w : World} (h : RGood w E s) (hout : run E.L E.e (f + 1) .primary s ≠ .out) (a2 : isP E.L 2 s = false) (a1 : isP E.L 1 s = false) (b0 : seesP E.L ⟨#[110,105,108]⟩ s = false) (b1 : seesP E.L ⟨#[115,101,108,102]⟩ s = true) : Calls Tryz.prog 143 #[.pointer (some ⟨E.Q,0,none⟩)] w (REnd E (run E.L E.e (f + 1) .primary s) w):=by
 have hE : RAt w E (.ok nd0 s):=h
 have HO:=Lib.hid hout
 generalize hrr : run E.L E.e (f + 1) .primary s = rr at *
 have hr:=hrr.symm
 simp only [run,nodeP,tx_nil,tx_lp,tx_rp,tx_knil,tx_self,tx_gate,tx_new,a2,a1,b0,b1,if_true,if_false,Bool.false_eq_true] at hr
 have HR:=Lib.hid hr
 clear hrr hr hout
 have HE:=Lib.hid hE.env
 have HQ:=Lib.hid hE.old
 have NE : Hid (¬ w.heap.size = E.Q):=by have:=hE.old;show ¬ _;omega
 have NS : Hid (∀ b,(fun b => w.heap.size < b) b → ¬ b = E.Q):=fun b hb e => by have h1:=hE.old;have h2 : w.heap.size < b:=hb;omega
 obtain ⟨o9,ho9⟩:=oZ
 have hb0:=bl w o9
 have HS:=Lib.hid (h.below hb0)
 have HT:=Lib.hid (Turned.of_below (fun b => b = E.Q) hb0)
 have HX:=zB w
 have HZ:=zN w o9
 subst ho9
 clear h hE hb0
 go_enter Tryz.func143,Tryz.ntmps143
 have A2:=Lib.hid a2
 have A1:=Lib.hid a1
 have B0:=Lib.hid b0
 have B1:=Lib.hid b1
 clear a2 a1 b0 b1
 go_wp2_with fail
 generalize (w.alloc (.cells #[.int .i64 0,.string ⟨#[]⟩,.int .i64 0,.slice none 0 0] 24)) = w1 at *
 refine (ris_is HS.out A2.out).mono ?_
 rintro e w2 ⟨rfl,hb9⟩
 have ht9:=Turned.of_below (fun b => b = E.Q) hb9
 have hs9:=HS.out.below hb9
 clear hb9
 replace HX:=bT HX ht9 NE
 replace HZ:=zT HZ ht9
 replace HT:=tT HT ht9
 replace HS:=Lib.hid hs9
 clear ht9 hs9
 go_wp2_with fail
 refine (ris_is HS.out A1.out).mono ?_
 rintro e w3 ⟨rfl,hb9⟩
 have ht9:=Turned.of_below (fun b => b = E.Q) hb9
 have hs9:=HS.out.below hb9
 clear hb9
 replace HX:=bT HX ht9 NE
 replace HZ:=zT HZ ht9
 replace HT:=tT HT ht9
 replace HS:=Lib.hid hs9
 clear ht9 hs9
 go_wp2_with fail
 refine (rbegins_n HS.out B0.out).mono ?_
 rintro e w4 ⟨rfl,ht9,hs9⟩
 replace HX:=bT HX ht9 NE
 replace HZ:=zT HZ ht9
 replace HT:=tT HT ht9
 replace HS:=Lib.hid hs9
 clear ht9 hs9
 go_wp2_with fail
 refine (rbegins_y HS.out B1.out).mono ?_
 rintro e w5 ⟨rfl,ht9,hs9⟩
 replace HX:=bT HX ht9 NE
 replace HZ:=zT HZ ht9
 replace HT:=tT HT ht9
 replace HS:=Lib.hid hs9
 clear ht9 hs9
 go_wp2_with fail
 have KN:=Lib.hid (Nodes.nil (w:=w5) (S:=(fun b => w.heap.size < b)) none)
 refine (rnode_any (r:=.ok nd0 _) 28 _ _ _ _ HS.out).mono ?_
 rintro e w6 ⟨rfl,ht9,hs9⟩
 have hs9 : RGood _ _ _:=hs9 nd0
 replace KN:=Lib.hid (KN.out.kept ht9.size (fun b hb hs => ht9.block b hb (NS.out b hs)) (fun b _ h => h))
 replace HX:=bT HX ht9 NE
 replace HZ:=zT HZ ht9
 replace HT:=tT HT ht9
 replace HS:=Lib.hid hs9
 clear ht9 hs9
 obtain ⟨u0X,u1X,u2X,u3X,g0X,g1X,g2X,g3X,glX⟩:=HX.out.f4
 go_wp2_with fail
 clear u0X u1X u2X u3X g0X g1X g2X g3X glX
 refine open_post (EndG w E _ ⟨28,⟨#[]⟩,0,none,0,0⟩ (.mk 28 ⟨#[]⟩ 0 [])) (end_good HE.out HQ.out HT.out HS.out HX.out (x:=⟨28,⟨#[]⟩,0,none,0,0⟩) (n:=(.mk 28 ⟨#[]⟩ 0 [])) ⟨⟨rfl,rfl,rfl,rfl⟩,KN.out⟩ (S:=(fun b => w.heap.size < b)) (fun b h => h)) ?_
 rintro W hE
 obtain ⟨v0,v1,v2,v3,-⟩:=hE.blk.f4
 exact bodyPost_ret (v:=nvA ⟨28,⟨#[]⟩,0,none,0,0⟩) (by simp [results,Tryz.results143,go_sem,v0,v1,v2,v3]) rfl (hE.done HR.out)
set_option maxRecDepth 100000 in
set_option maxHeartbeats 1600000 in
theorem rprimary_gate {f : Nat} (ihX : RCall f .expr 113) (bdX : RFlat 113) {E : Env} {s : PS} {w : World} (h : RGood w E s) (hout : run E.L E.e (f + 1) .primary s ≠ .out) (a2 : isP E.L 2 s = false) (a1 : isP E.L 1 s = false) (b0 : seesP E.L ⟨#[110,105,108]⟩ s = false) (b1 : seesP E.L ⟨#[115,101,108,102]⟩ s = false) (b2 : seesP E.L ⟨#[103,97,116,101]⟩ s = true) : Calls Tryz.prog 143 #[.pointer (some ⟨E.Q,0,none⟩)] w (REnd E (run E.L E.e (f + 1) .primary s) w):=by
 have hE : RAt w E (.ok nd0 s):=h
 have HO:=Lib.hid hout
 generalize hrr : run E.L E.e (f + 1) .primary s = rr at *
 have hr:=hrr.symm
 simp only [run,nodeP,tx_nil,tx_lp,tx_rp,tx_knil,tx_self,tx_gate,tx_new,a2,a1,b0,b1,b2,if_true,if_false,Bool.false_eq_true] at hr
 have HR:=Lib.hid hr
 clear hrr hr hout
 have HE:=Lib.hid hE.env
 have HQ:=Lib.hid hE.old
 have NE : Hid (¬ w.heap.size = E.Q):=by have:=hE.old;show ¬ _;omega
 have NS : Hid (∀ b,(fun b => w.heap.size < b) b → ¬ b = E.Q):=fun b hb e => by have h1:=hE.old;have h2 : w.heap.size < b:=hb;omega
 obtain ⟨o9,ho9⟩:=oZ
 have hb0:=bl w o9
 have HS:=Lib.hid (h.below hb0)
 have HT:=Lib.hid (Turned.of_below (fun b => b = E.Q) hb0)
 have HX:=zB w
 have HZ:=zN w o9
 subst ho9
 clear h hE hb0
 go_enter Tryz.func143,Tryz.ntmps143
 have A2:=Lib.hid a2
 have A1:=Lib.hid a1
 have B0:=Lib.hid b0
 have B1:=Lib.hid b1
 have B2:=Lib.hid b2
 clear a2 a1 b0 b1 b2
 go_wp2_with fail
 generalize (w.alloc (.cells #[.int .i64 0,.string ⟨#[]⟩,.int .i64 0,.slice none 0 0] 24)) = w1 at *
 refine (ris_is HS.out A2.out).mono ?_
 rintro e w2 ⟨rfl,hb9⟩
 have ht9:=Turned.of_below (fun b => b = E.Q) hb9
 have hs9:=HS.out.below hb9
 clear hb9
 replace HX:=bT HX ht9 NE
 replace HZ:=zT HZ ht9
 replace HT:=tT HT ht9
 replace HS:=Lib.hid hs9
 clear ht9 hs9
 go_wp2_with fail
 refine (ris_is HS.out A1.out).mono ?_
 rintro e w3 ⟨rfl,hb9⟩
 have ht9:=Turned.of_below (fun b => b = E.Q) hb9
 have hs9:=HS.out.below hb9
 clear hb9
 replace HX:=bT HX ht9 NE
 replace HZ:=zT HZ ht9
 replace HT:=tT HT ht9
 replace HS:=Lib.hid hs9
 clear ht9 hs9
 go_wp2_with fail
 refine (rbegins_n HS.out B0.out).mono ?_
 rintro e w4 ⟨rfl,ht9,hs9⟩
 replace HX:=bT HX ht9 NE
 replace HZ:=zT HZ ht9
 replace HT:=tT HT ht9
 replace HS:=Lib.hid hs9
 clear ht9 hs9
 go_wp2_with fail
 refine (rbegins_n HS.out B1.out).mono ?_
 rintro e w5 ⟨rfl,ht9,hs9⟩
 replace HX:=bT HX ht9 NE
 replace HZ:=zT HZ ht9
 replace HT:=tT HT ht9
 replace HS:=Lib.hid hs9
 clear ht9 hs9
 go_wp2_with fail
 refine (rbegins_y HS.out B2.out).mono ?_
 rintro e w6 ⟨rfl,ht9,hs9⟩
 replace HX:=bT HX ht9 NE
 replace HZ:=zT HZ ht9
 replace HT:=tT HT ht9
 replace HS:=Lib.hid hs9
 clear ht9 hs9
 go_wp2_with fail
 have KN:=Lib.hid (Nodes.nil (w:=w6) (S:=(fun b => w.heap.size < b)) none)
 refine (rnode_any (r:=.ok nd0 _) 29 _ _ _ _ HS.out).mono ?_
 rintro e w7 ⟨rfl,ht9,hs9⟩
 have hs9 : RGood _ _ _:=hs9 nd0
 replace KN:=Lib.hid (KN.out.kept ht9.size (fun b hb hs => ht9.block b hb (NS.out b hs)) (fun b _ h => h))
 replace HX:=bT HX ht9 NE
 replace HZ:=zT HZ ht9
 replace HT:=tT HT ht9
 replace HS:=Lib.hid hs9
 clear ht9 hs9
 obtain ⟨u0X,u1X,u2X,u3X,g0X,g1X,g2X,g3X,glX⟩:=HX.out.f4
 go_wp2_with fail
 clear u0X u1X u2X u3X g0X g1X g2X g3X glX
 refine open_post (EndG w E _ ⟨29,⟨#[]⟩,0,none,0,0⟩ (.mk 29 ⟨#[]⟩ 0 [])) (end_good HE.out HQ.out HT.out HS.out HX.out (x:=⟨29,⟨#[]⟩,0,none,0,0⟩) (n:=(.mk 29 ⟨#[]⟩ 0 [])) ⟨⟨rfl,rfl,rfl,rfl⟩,KN.out⟩ (S:=(fun b => w.heap.size < b)) (fun b h => h)) ?_
 rintro W hE
 obtain ⟨v0,v1,v2,v3,-⟩:=hE.blk.f4
 exact bodyPost_ret (v:=nvA ⟨29,⟨#[]⟩,0,none,0,0⟩) (by simp [results,Tryz.results143,go_sem,v0,v1,v2,v3]) rfl (hE.done HR.out)
set_option maxRecDepth 100000 in
set_option maxHeartbeats 1600000 in
theorem rprimary_new {f : Nat} (ihX : RCall f .expr 113) (bdX : RFlat 113) {E : Env} {s : PS} {w : World} (h : RGood w E s) (hout : run E.L E.e (f + 1) .primary s ≠ .out) (a2 : isP E.L 2 s = false) (a1 : isP E.L 1 s = false) (b0 : seesP E.L ⟨#[110,105,108]⟩ s = false) (b1 : seesP E.L ⟨#[115,101,108,102]⟩ s = false) (b2 : seesP E.L ⟨#[103,97,116,101]⟩ s = false) (b3 : seesP E.L ⟨#[110,101,119]⟩ s = true) : Calls Tryz.prog 143 #[.pointer (some ⟨E.Q,0,none⟩)] w (REnd E (run E.L E.e (f + 1) .primary s) w):=by
 have hE : RAt w E (.ok nd0 s):=h
 have HO:=Lib.hid hout
 generalize hrr : run E.L E.e (f + 1) .primary s = rr at *
 have hr:=hrr.symm
 simp only [run,nodeP,tx_nil,tx_lp,tx_rp,tx_knil,tx_self,tx_gate,tx_new,a2,a1,b0,b1,b2,b3,if_true,if_false,Bool.false_eq_true] at hr
 have HR:=Lib.hid hr
 clear hrr hr hout
 have HE:=Lib.hid hE.env
 have HQ:=Lib.hid hE.old
 have NE : Hid (¬ w.heap.size = E.Q):=by have:=hE.old;show ¬ _;omega
 have NS : Hid (∀ b,(fun b => w.heap.size < b) b → ¬ b = E.Q):=fun b hb e => by have h1:=hE.old;have h2 : w.heap.size < b:=hb;omega
 obtain ⟨o9,ho9⟩:=oZ
 have hb0:=bl w o9
 have HS:=Lib.hid (h.below hb0)
 have HT:=Lib.hid (Turned.of_below (fun b => b = E.Q) hb0)
 have HX:=zB w
 have HZ:=zN w o9
 subst ho9
 clear h hE hb0
 go_enter Tryz.func143,Tryz.ntmps143
 have A2:=Lib.hid a2
 have A1:=Lib.hid a1
 have B0:=Lib.hid b0
 have B1:=Lib.hid b1
 have B2:=Lib.hid b2
 have B3:=Lib.hid b3
 clear a2 a1 b0 b1 b2 b3
 go_wp2_with fail
 generalize (w.alloc (.cells #[.int .i64 0,.string ⟨#[]⟩,.int .i64 0,.slice none 0 0] 24)) = w1 at *
 refine (ris_is HS.out A2.out).mono ?_
 rintro e w2 ⟨rfl,hb9⟩
 have ht9:=Turned.of_below (fun b => b = E.Q) hb9
 have hs9:=HS.out.below hb9
 clear hb9
 replace HX:=bT HX ht9 NE
 replace HZ:=zT HZ ht9
 replace HT:=tT HT ht9
 replace HS:=Lib.hid hs9
 clear ht9 hs9
 go_wp2_with fail
 refine (ris_is HS.out A1.out).mono ?_
 rintro e w3 ⟨rfl,hb9⟩
 have ht9:=Turned.of_below (fun b => b = E.Q) hb9
 have hs9:=HS.out.below hb9
 clear hb9
 replace HX:=bT HX ht9 NE
 replace HZ:=zT HZ ht9
 replace HT:=tT HT ht9
 replace HS:=Lib.hid hs9
 clear ht9 hs9
 go_wp2_with fail
 refine (rbegins_n HS.out B0.out).mono ?_
 rintro e w4 ⟨rfl,ht9,hs9⟩
 replace HX:=bT HX ht9 NE
 replace HZ:=zT HZ ht9
 replace HT:=tT HT ht9
 replace HS:=Lib.hid hs9
 clear ht9 hs9
 go_wp2_with fail
 refine (rbegins_n HS.out B1.out).mono ?_
 rintro e w5 ⟨rfl,ht9,hs9⟩
 replace HX:=bT HX ht9 NE
 replace HZ:=zT HZ ht9
 replace HT:=tT HT ht9
 replace HS:=Lib.hid hs9
 clear ht9 hs9
 go_wp2_with fail
 refine (rbegins_n HS.out B2.out).mono ?_
 rintro e w6 ⟨rfl,ht9,hs9⟩
 replace HX:=bT HX ht9 NE
 replace HZ:=zT HZ ht9
 replace HT:=tT HT ht9
 replace HS:=Lib.hid hs9
 clear ht9 hs9
 go_wp2_with fail
 refine (rbegins_y HS.out B3.out).mono ?_
 rintro e w7 ⟨rfl,ht9,hs9⟩
 replace HX:=bT HX ht9 NE
 replace HZ:=zT HZ ht9
 replace HT:=tT HT ht9
 replace HS:=Lib.hid hs9
 clear ht9 hs9
 go_wp2_with fail
 refine (rname_two HS.out).mono ?_
 rintro e w8 ⟨ht9,(⟨t,s9,hr9,rfl,hs9⟩ | ⟨c9,p9,hr9,rfl,hs9⟩)⟩
 ·replace HR:=Lib.hid (HR.out.trans (bind_ok hr9))
  clear hr9
  replace HX:=bT HX ht9 NE
  replace HZ:=zT HZ ht9
  replace HT:=tT HT ht9
  replace HS:=Lib.hid hs9
  clear ht9 hs9
  go_wp2_with fail
  have KN:=Lib.hid (Nodes.nil (w:=w8) (S:=(fun b => w.heap.size < b)) none)
  refine (rnode_any (r:=.ok nd0 _) 30 t.text _ _ _ HS.out).mono ?_
  rintro e w10 ⟨rfl,ht9,hs9⟩
  have hs9 : RGood _ _ _:=hs9 nd0
  replace KN:=Lib.hid (KN.out.kept ht9.size (fun b hb hs => ht9.block b hb (NS.out b hs)) (fun b _ h => h))
  replace HX:=bT HX ht9 NE
  replace HZ:=zT HZ ht9
  replace HT:=tT HT ht9
  replace HS:=Lib.hid hs9
  clear ht9 hs9
  obtain ⟨u0X,u1X,u2X,u3X,g0X,g1X,g2X,g3X,glX⟩:=HX.out.f4
  go_wp2_with fail
  clear u0X u1X u2X u3X g0X g1X g2X g3X glX
  refine open_post (EndG w E _ ⟨30,t.text,0,none,0,0⟩ (.mk 30 t.text 0 [])) (end_good HE.out HQ.out HT.out HS.out HX.out (x:=⟨30,t.text,0,none,0,0⟩) (n:=(.mk 30 t.text 0 [])) ⟨⟨rfl,rfl,rfl,rfl⟩,KN.out⟩ (S:=(fun b => w.heap.size < b)) (fun b h => h)) ?_
  rintro W hE
  obtain ⟨v0,v1,v2,v3,-⟩:=hE.blk.f4
  exact bodyPost_ret (v:=nvA ⟨30,t.text,0,none,0,0⟩) (by simp [results,Tryz.results143,go_sem,v0,v1,v2,v3]) rfl (hE.done HR.out)
 ·replace HR:=Lib.hid (HR.out.trans (bind_no hr9))
  clear hr9
  replace HX:=bT HX ht9 NE
  replace HZ:=zT HZ ht9
  replace HT:=tT HT ht9
  replace HS:=Lib.hid hs9
  clear ht9 hs9
  go_wp2_with fail
  refine (rnode_bad HS.out 30 _ _ _ _).mono ?_
  rintro e w11 ⟨rfl,ht9,hs9⟩
  replace HX:=bT HX ht9 NE
  replace HZ:=zT HZ ht9
  replace HT:=tT HT ht9
  replace HS:=Lib.hid hs9
  clear ht9 hs9
  obtain ⟨u0X,u1X,u2X,u3X,g0X,g1X,g2X,g3X,glX⟩:=HX.out.f4
  go_wp2_with fail
  clear u0X u1X u2X u3X g0X g1X g2X g3X glX
  refine open_post (EndB w E _ _ _) (end_bad HE.out HQ.out HT.out HS.out HX.out (x:=⟨_,_,_,_,_,_⟩)) ?_
  rintro W hE
  obtain ⟨v0,v1,v2,v3,-⟩:=hE.blk.f4
  exact bodyPost_ret (v:=nvA ⟨_,_,_,_,_,_⟩) (by simp [results,Tryz.results143,go_sem,v0,v1,v2,v3]) rfl (hE.done HR.out)
set_option maxRecDepth 100000 in
set_option maxHeartbeats 1600000 in
theorem rprimary_paren {f : Nat} (ihX : RCall f .expr 113) (bdX : RFlat 113) {E : Env} {s : PS} {w : World} (h : RGood w E s) (hout : run E.L E.e (f + 1) .primary s ≠ .out) (a2 : isP E.L 2 s = false) (a1 : isP E.L 1 s = false) (b0 : seesP E.L ⟨#[110,105,108]⟩ s = false) (b1 : seesP E.L ⟨#[115,101,108,102]⟩ s = false) (b2 : seesP E.L ⟨#[103,97,116,101]⟩ s = false) (b3 : seesP E.L ⟨#[110,101,119]⟩ s = false) : Calls Tryz.prog 143 #[.pointer (some ⟨E.Q,0,none⟩)] w (REnd E (run E.L E.e (f + 1) .primary s) w):=by
 have hE : RAt w E (.ok nd0 s):=h
 have HO:=Lib.hid hout
 generalize hrr : run E.L E.e (f + 1) .primary s = rr at *
 have hr:=hrr.symm
 simp only [run,nodeP,tx_nil,tx_lp,tx_rp,tx_knil,tx_self,tx_gate,tx_new,a2,a1,b0,b1,b2,b3,if_false,Bool.false_eq_true] at hr
 have HR:=Lib.hid hr
 clear hrr hr hout
 have HE:=Lib.hid hE.env
 have HQ:=Lib.hid hE.old
 have NE : Hid (¬ w.heap.size = E.Q):=by have:=hE.old;show ¬ _;omega
 have NS : Hid (∀ b,(fun b => w.heap.size < b) b → ¬ b = E.Q):=fun b hb e => by have h1:=hE.old;have h2 : w.heap.size < b:=hb;omega
 obtain ⟨o9,ho9⟩:=oZ
 have hb0:=bl w o9
 have HS:=Lib.hid (h.below hb0)
 have HT:=Lib.hid (Turned.of_below (fun b => b = E.Q) hb0)
 have HX:=zB w
 have HZ:=zN w o9
 subst ho9
 clear h hE hb0
 go_enter Tryz.func143,Tryz.ntmps143
 have A2:=Lib.hid a2
 have A1:=Lib.hid a1
 have B0:=Lib.hid b0
 have B1:=Lib.hid b1
 have B2:=Lib.hid b2
 have B3:=Lib.hid b3
 clear a2 a1 b0 b1 b2 b3
 go_wp2_with fail
 generalize (w.alloc (.cells #[.int .i64 0,.string ⟨#[]⟩,.int .i64 0,.slice none 0 0] 24)) = w1 at *
 refine (ris_is HS.out A2.out).mono ?_
 rintro e w2 ⟨rfl,hb9⟩
 have ht9:=Turned.of_below (fun b => b = E.Q) hb9
 have hs9:=HS.out.below hb9
 clear hb9
 replace HX:=bT HX ht9 NE
 replace HZ:=zT HZ ht9
 replace HT:=tT HT ht9
 replace HS:=Lib.hid hs9
 clear ht9 hs9
 go_wp2_with fail
 refine (ris_is HS.out A1.out).mono ?_
 rintro e w3 ⟨rfl,hb9⟩
 have ht9:=Turned.of_below (fun b => b = E.Q) hb9
 have hs9:=HS.out.below hb9
 clear hb9
 replace HX:=bT HX ht9 NE
 replace HZ:=zT HZ ht9
 replace HT:=tT HT ht9
 replace HS:=Lib.hid hs9
 clear ht9 hs9
 go_wp2_with fail
 refine (rbegins_n HS.out B0.out).mono ?_
 rintro e w4 ⟨rfl,ht9,hs9⟩
 replace HX:=bT HX ht9 NE
 replace HZ:=zT HZ ht9
 replace HT:=tT HT ht9
 replace HS:=Lib.hid hs9
 clear ht9 hs9
 go_wp2_with fail
 refine (rbegins_n HS.out B1.out).mono ?_
 rintro e w5 ⟨rfl,ht9,hs9⟩
 replace HX:=bT HX ht9 NE
 replace HZ:=zT HZ ht9
 replace HT:=tT HT ht9
 replace HS:=Lib.hid hs9
 clear ht9 hs9
 go_wp2_with fail
 refine (rbegins_n HS.out B2.out).mono ?_
 rintro e w6 ⟨rfl,ht9,hs9⟩
 replace HX:=bT HX ht9 NE
 replace HZ:=zT HZ ht9
 replace HT:=tT HT ht9
 replace HS:=Lib.hid hs9
 clear ht9 hs9
 go_wp2_with fail
 refine (rbegins_n HS.out B3.out).mono ?_
 rintro e w7 ⟨rfl,ht9,hs9⟩
 replace HX:=bT HX ht9 NE
 replace HZ:=zT HZ ht9
 replace HT:=tT HT ht9
 replace HS:=Lib.hid hs9
 clear ht9 hs9
 go_wp2_with fail
 refine (rwant_two HS.out _).mono ?_
 rintro e w8 ⟨rfl,ht9,(⟨m9,s9,hr9,hs9⟩ | ⟨c9,p9,hr9,hs9⟩)⟩
 ·replace HR:=Lib.hid (HR.out.trans (bind_ok hr9))
  clear hr9
  replace HX:=bT HX ht9 NE
  replace HZ:=zT HZ ht9
  replace HT:=tT HT ht9
  replace HS:=Lib.hid hs9
  clear ht9 hs9
  obtain ⟨z0,z1,z2,z3,z4,z5,z6,z7,z8,z9,z10,z11,zl⟩:=HS.out.blk.f7
  obtain ⟨u0X,u1X,u2X,u3X,g0X,g1X,g2X,g3X,glX⟩:=HX.out.f4
  go_wp2_with fail
  clear z0 z1 z2 z3 z4 z5 z6 z7 z8 z9 z10 z11 zl u0X u1X u2X u3X g0X g1X g2X g3X glX
  refine ((ihX E) _ _ HS.out (fun h => HO.out (HR.out.trans (bind_out h)))).mono ?_
  rintro e w10 hq9
  rcases hq9.two (fun h => HO.out (HR.out.trans (bind_out h))) with ⟨n_k,s11,x_k,hr9,rfl,ht9,hs9,hi9⟩ | ⟨c9,p9,x_k,hr9,rfl,ht9,hs9⟩
  ·replace HR:=Lib.hid (HR.out.trans (bind_ok hr9))
   clear hr9 hq9
   have T_k:=Lib.hid (hi9.weak (S':=(fun b => w.heap.size < b)) (fun b hb h => Nat.lt_of_lt_of_le HZ.out h))
   clear hi9
   replace HX:=bT HX ht9 NE
   replace HZ:=zT HZ ht9
   replace HT:=tT HT ht9
   replace HS:=Lib.hid hs9
   clear ht9 hs9
   have NE_k:=nE HQ HZ
   have HB_k:=nB w10 x_k
   obtain ⟨o9,ho9⟩:=oN x_k
   replace HX:=bA HX o9
   replace T_k:=nA T_k o9
   replace HS:=Lib.hid (HS.out.below (bl _ o9))
   replace HT:=tA HT o9
   replace HZ:=zA HZ o9
   subst ho9
   go_wp2_with fail
   (try rw [← (show (World.alloc w10 (.cells #[.int .i64 x_k.kind,.string x_k.text,.int .i64 x_k.num,.slice x_k.a x_k.len x_k.cap] 24)).heap.size = _ from World.size_alloc _ _)])
   generalize (World.alloc w10 (.cells #[.int .i64 x_k.kind,.string x_k.text,.int .i64 x_k.num,.slice x_k.a x_k.len x_k.cap] 24)) = w12 at *
   refine (rwant_two HS.out _).mono ?_
   rintro e w13 ⟨rfl,ht9,(⟨m9,s14,hr9,hs9⟩ | ⟨c9,p9,hr9,hs9⟩)⟩
   ·replace HR:=Lib.hid (HR.out.trans (bind_ok hr9))
    clear hr9
    replace HX:=bT HX ht9 NE
    replace HB_k:=bT HB_k ht9 NE_k
    replace T_k:=nT T_k ht9 NS
    replace HZ:=zT HZ ht9
    replace HT:=tT HT ht9
    replace HS:=Lib.hid hs9
    clear ht9 hs9
    obtain ⟨u0X,u1X,u2X,u3X,g0X,g1X,g2X,g3X,glX⟩:=HX.out.f4
    obtain ⟨u0k,u1k,u2k,u3k,g0k,g1k,g2k,g3k,glk⟩:=HB_k.out.f4
    go_wp2_with fail
    clear u0X u1X u2X u3X g0X g1X g2X g3X glX u0k u1k u2k u3k g0k g1k g2k g3k glk
    refine open_post (EndG w E _ x_k n_k) (end_good HE.out HQ.out HT.out HS.out HX.out (x:=x_k) (n:=n_k) T_k.out (S:=(fun b => w.heap.size < b)) (fun b h => h)) ?_
    rintro W hE
    obtain ⟨v0,v1,v2,v3,-⟩:=hE.blk.f4
    exact bodyPost_ret (v:=nvA x_k) (by simp [results,Tryz.results143,go_sem,v0,v1,v2,v3]) rfl (hE.done HR.out)
   ·replace HR:=Lib.hid (HR.out.trans (bind_no hr9))
    clear hr9
    replace HX:=bT HX ht9 NE
    replace HB_k:=bT HB_k ht9 NE_k
    replace HZ:=zT HZ ht9
    replace HT:=tT HT ht9
    replace HS:=Lib.hid hs9
    clear ht9 hs9
    obtain ⟨u0X,u1X,u2X,u3X,g0X,g1X,g2X,g3X,glX⟩:=HX.out.f4
    obtain ⟨u0k,u1k,u2k,u3k,g0k,g1k,g2k,g3k,glk⟩:=HB_k.out.f4
    go_wp2_with fail
    clear u0X u1X u2X u3X g0X g1X g2X g3X glX u0k u1k u2k u3k g0k g1k g2k g3k glk
    refine open_post (EndB w E _ _ _) (end_bad HE.out HQ.out HT.out HS.out HX.out (x:=⟨_,_,_,_,_,_⟩)) ?_
    rintro W hE
    obtain ⟨v0,v1,v2,v3,-⟩:=hE.blk.f4
    exact bodyPost_ret (v:=nvA ⟨_,_,_,_,_,_⟩) (by simp [results,Tryz.results143,go_sem,v0,v1,v2,v3]) rfl (hE.done HR.out)
  ·replace HR:=Lib.hid (HR.out.trans (bind_no hr9))
   clear hr9 hq9
   replace HX:=bT HX ht9 NE
   replace HZ:=zT HZ ht9
   replace HT:=tT HT ht9
   replace HS:=Lib.hid hs9
   clear ht9 hs9
   have NE_k:=nE HQ HZ
   have HB_k:=nB w10 x_k
   obtain ⟨o9,ho9⟩:=oN x_k
   replace HX:=bA HX o9
   replace HS:=Lib.hid (HS.out.below (bl _ o9))
   replace HT:=tA HT o9
   replace HZ:=zA HZ o9
   subst ho9
   go_wp2_with fail
   (try rw [← (show (World.alloc w10 (.cells #[.int .i64 x_k.kind,.string x_k.text,.int .i64 x_k.num,.slice x_k.a x_k.len x_k.cap] 24)).heap.size = _ from World.size_alloc _ _)])
   generalize (World.alloc w10 (.cells #[.int .i64 x_k.kind,.string x_k.text,.int .i64 x_k.num,.slice x_k.a x_k.len x_k.cap] 24)) = w15 at *
   refine (rwant_bad HS.out _).mono ?_
   rintro e w16 ⟨rfl,ht9,hs9⟩
   replace HX:=bT HX ht9 NE
   replace HB_k:=bT HB_k ht9 NE_k
   replace HZ:=zT HZ ht9
   replace HT:=tT HT ht9
   replace HS:=Lib.hid hs9
   clear ht9 hs9
   obtain ⟨u0X,u1X,u2X,u3X,g0X,g1X,g2X,g3X,glX⟩:=HX.out.f4
   obtain ⟨u0k,u1k,u2k,u3k,g0k,g1k,g2k,g3k,glk⟩:=HB_k.out.f4
   go_wp2_with fail
   clear u0X u1X u2X u3X g0X g1X g2X g3X glX u0k u1k u2k u3k g0k g1k g2k g3k glk
   refine open_post (EndB w E _ _ _) (end_bad HE.out HQ.out HT.out HS.out HX.out (x:=⟨_,_,_,_,_,_⟩)) ?_
   rintro W hE
   obtain ⟨v0,v1,v2,v3,-⟩:=hE.blk.f4
   exact bodyPost_ret (v:=nvA ⟨_,_,_,_,_,_⟩) (by simp [results,Tryz.results143,go_sem,v0,v1,v2,v3]) rfl (hE.done HR.out)
 ·replace HR:=Lib.hid (HR.out.trans (bind_no hr9))
  clear hr9
  replace HX:=bT HX ht9 NE
  replace HZ:=zT HZ ht9
  replace HT:=tT HT ht9
  replace HS:=Lib.hid hs9
  clear ht9 hs9
  obtain ⟨zi,zd,zm,hq⟩:=HS.out.blk
  obtain ⟨z0,z1,z2,z3,z4,z5,z6,z7,z8,z9,z10,z11,zl⟩:=hq.f7
  have zc:=HS.out.ne
  clear hq
  obtain ⟨u0X,u1X,u2X,u3X,g0X,g1X,g2X,g3X,glX⟩:=HX.out.f4
  go_wp2_with fail
  clear z0 z1 z2 z3 z4 z5 z6 z7 z8 z9 z10 z11 zl zc u0X u1X u2X u3X g0X g1X g2X g3X glX
  refine open_post (EndB w E _ _ _) (end_bad HE.out HQ.out HT.out HS.out HX.out (x:=⟨_,_,_,_,_,_⟩)) ?_
  rintro W hE
  obtain ⟨v0,v1,v2,v3,-⟩:=hE.blk.f4
  exact bodyPost_ret (v:=nvA ⟨_,_,_,_,_,_⟩) (by simp [results,Tryz.results143,go_sem,v0,v1,v2,v3]) rfl (hE.done HR.out)
end Go.Proofs.YtbpldfmmlgkfnaaGreatDoor
