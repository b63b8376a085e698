/- The document's parser: statements. Conditions: what expressions and blocks do. -/
import Derived.Test.YtbpldfmmlgkfnaaGreatDoorEMemZ
import Derived.Test.YtbpldfmmlgkfnaaGreatDoorERpH
namespace Go.Proofs.YtbpldfmmlgkfnaaGreatDoor
open Go.RowKit
set_option linter.unusedVariables false
theorem box_keeps {w W : World} {E : Env} {R : Nat} {u0 u1 u2 u3 : Value} (h0 : EnvOk w E) (hQ : E.Q < w.heap.size) (ht : Turned w W (fun b => b = E.Q)) (hb : Blk W R 24 #[u0,u1,u2,u3]) (hR : w.heap.size < R) (v0 v1 v2 v3 : Value) (W' : World) (hW : W' = ((((W.setCell ⟨R,0,none⟩ v0).setCell ⟨R,1,none⟩ v1).setCell ⟨R,2,none⟩ v2).setCell ⟨R,3,none⟩ v3)) :
  Turned w W' (fun b => b = E.Q) ∧ W.heap.size = W'.heap.size ∧ Blk W' R 24 #[v0,v1,v2,v3] ∧ (∀ r,RAt W E r → RAt W' E r) ∧ (∀ k t cs,k ≠ R → Blk W k t cs → Blk W' k t cs) ∧
  (∀ (S : Nat → Prop) x n,(∀ b,S b → b ≠ R) → IsN W S x n → IsN W' S x n) ∧ (∀ base v xs,v.ownBlock ≠ some R → OwnN W base v xs → OwnN W' base v xs):=by
 subst hW
 obtain ⟨h1,h2,h3,h4⟩:=box_node ht hb (Nat.le_of_lt hR) v0 v1 v2 v3
 exact ⟨h1,h4.symm,h2,fun r hr => hr.far h0 (Nat.le_of_lt hR) hQ h3 h4,fun k t cs hk hc => (h3 k hk).trans hc,fun S x n hS hx => hx.kept (Nat.le_of_eq h4.symm) (fun b _ hb => h3 b (hS b hb)) (fun b _ hb => hb),fun base v xs hv ho => ho.grown ⟨by rfl,by rfl,by rfl,Nat.le_of_eq h4.symm,fun k hk hr => h3 k (fun e => hr (by rw [e]))⟩ (by
  cases hvb : v.ownBlock with
  | none => exact .inl rfl
  | some k => exact .inr (fun e => hv (by rw [hvb];exact e)))⟩

set_option maxRecDepth 100000 in
set_option maxHeartbeats 1600000 in
theorem rstmt_var {f : Nat} (ihX : RCall f .expr 113) (bdX : RFlat 113) (ihB : RCall f .block 70) (bdB : RFlat 70) {E : Env} {s : PS} {w : World} (h : RGood w E s) (hout : run E.L E.e (f + 1) .stmt s ≠ .out) (b0 : seesP E.L ⟨#[118,97,114]⟩ s = true) : Calls Tryz.prog 98 #[.pointer (some ⟨E.Q,0,none⟩)] w (REnd E (run E.L E.e (f + 1) .stmt s) w):=by
 have hE : RAt w E (.ok nd0 s):=h
 have HO:=Lib.hid hout
 generalize hrr : run E.L E.e (f + 1) .stmt s = rr at *
 have hr : rr = withP E.L E.e f 7 (stepP s):=by
  rw [← hrr]
  simp only [run,tx_var,b0,if_true,]
  rfl
 have HR:=Lib.hid hr
 clear hrr hr hout
 have HE:=Lib.hid hE.env
 have HQ:=Lib.hid hE.old
 have NE : Hid (¬ w.heap.size = E.Q):=by have:=hE.old;show ¬ _;omega
 have NS : Hid (∀ b,(fun b => w.heap.size < b) b → ¬ b = E.Q):=fun b hb e => by have h1:=hE.old;have h2 : w.heap.size < b:=hb;omega
 obtain ⟨o9,ho9⟩:=oZ
 have hb0:=bl w o9
 have HS:=Lib.hid (h.below hb0)
 have HT:=Lib.hid (Turned.of_below (fun b => b = E.Q) hb0)
 have HX:=zB w
 have HZ:=zN w o9
 subst ho9
 clear h hE hb0
 go_enter Tryz.func98,Tryz.ntmps98
 have B0:=Lib.hid b0
 clear b0
 go_wp2_with fail
 generalize (w.alloc (.cells #[.int .i64 0,.string ⟨#[]⟩,.int .i64 0,.slice none 0 0] 24)) = w1 at *
 refine (rbegins_y HS.out B0.out).mono ?_
 rintro e w2 ⟨rfl,ht9,hs9⟩
 replace HX:=bT HX ht9 NE
 replace HZ:=zT HZ ht9
 replace HT:=tT HT ht9
 replace HS:=Lib.hid hs9
 clear ht9 hs9
 replace HR:=Lib.hid (HR.out.trans (res_id _).symm)
 go_wp2_with fail
 refine ((fun s w h ho => rwith_any ihX bdX 7 h ho) _ _ HS.out (fun h => HO.out (HR.out.trans (bind_out h)))).mono ?_
 rintro e w3 hq9
 rcases hq9.two (fun h => HO.out (HR.out.trans (bind_out h))) with ⟨n_k,s4,x_k,hr9,rfl,ht9,hs9,hi9⟩ | ⟨c9,p9,x_k,hr9,rfl,ht9,hs9⟩
 ·replace HR:=Lib.hid (HR.out.trans (bind_ok hr9))
  clear hr9 hq9
  have T_k:=Lib.hid (hi9.weak (S':=(fun b => w.heap.size < b)) (fun b hb h => Nat.lt_of_lt_of_le HZ.out h))
  clear hi9
  replace HX:=bT HX ht9 NE
  replace HZ:=zT HZ ht9
  replace HT:=tT HT ht9
  replace HS:=Lib.hid hs9
  clear ht9 hs9
  obtain ⟨u0X,u1X,u2X,u3X,g0X,g1X,g2X,g3X,glX⟩:=HX.out.f4
  go_wp2_with fail
  clear u0X u1X u2X u3X g0X g1X g2X g3X glX
  refine open_post (EndG w E _ x_k n_k) (end_good HE.out HQ.out HT.out HS.out HX.out (x:=x_k) (n:=n_k) T_k.out (S:=(fun b => w.heap.size < b)) (fun b h => h)) ?_
  rintro W hE
  obtain ⟨v0,v1,v2,v3,-⟩:=hE.blk.f4
  exact bodyPost_ret (v:=nvA x_k) (by simp [results,Tryz.results98,go_sem,v0,v1,v2,v3]) rfl (hE.done HR.out)
 ·replace HR:=Lib.hid (HR.out.trans (bind_no hr9))
  clear hr9 hq9
  replace HX:=bT HX ht9 NE
  replace HZ:=zT HZ ht9
  replace HT:=tT HT ht9
  replace HS:=Lib.hid hs9
  clear ht9 hs9
  obtain ⟨u0X,u1X,u2X,u3X,g0X,g1X,g2X,g3X,glX⟩:=HX.out.f4
  go_wp2_with fail
  clear u0X u1X u2X u3X g0X g1X g2X g3X glX
  refine open_post (EndB w E _ _ _) (end_bad HE.out HQ.out HT.out HS.out HX.out (x:=⟨_,_,_,_,_,_⟩)) ?_
  rintro W hE
  obtain ⟨v0,v1,v2,v3,-⟩:=hE.blk.f4
  exact bodyPost_ret (v:=nvA ⟨_,_,_,_,_,_⟩) (by simp [results,Tryz.results98,go_sem,v0,v1,v2,v3]) rfl (hE.done HR.out)
set_option maxRecDepth 100000 in
set_option maxHeartbeats 1600000 in
theorem rstmt_if {f : Nat} (ihX : RCall f .expr 113) (bdX : RFlat 113) (ihB : RCall f .block 70) (bdB : RFlat 70) {E : Env} {s : PS} {w : World} (h : RGood w E s) (hout : run E.L E.e (f + 1) .stmt s ≠ .out) (b0 : seesP E.L ⟨#[118,97,114]⟩ s = false) (b1 : seesP E.L ⟨#[105,102]⟩ s = true) : Calls Tryz.prog 98 #[.pointer (some ⟨E.Q,0,none⟩)] w (REnd E (run E.L E.e (f + 1) .stmt s) w):=by
 have hE : RAt w E (.ok nd0 s):=h
 have HO:=Lib.hid hout
 generalize hrr : run E.L E.e (f + 1) .stmt s = rr at *
 have hr:=hrr.symm
 simp only [run,nodeP,tx_nil,tx_semi,tx_lp,tx_rp,tx_com,tx_var,tx_eq,tx_if,tx_else,tx_while,tx_return,tx_print,tx_fork,tx_wait,tx_signal,tx_swap,b0,b1,if_true,if_false,Bool.false_eq_true] at hr
 have HR:=Lib.hid hr
 clear hrr hr hout
 have HE:=Lib.hid hE.env
 have HQ:=Lib.hid hE.old
 have NE : Hid (¬ w.heap.size = E.Q):=by have:=hE.old;show ¬ _;omega
 have NS : Hid (∀ b,(fun b => w.heap.size < b) b → ¬ b = E.Q):=fun b hb e => by have h1:=hE.old;have h2 : w.heap.size < b:=hb;omega
 obtain ⟨o9,ho9⟩:=oZ
 have hb0:=bl w o9
 have HS:=Lib.hid (h.below hb0)
 have HT:=Lib.hid (Turned.of_below (fun b => b = E.Q) hb0)
 have HX:=zB w
 have HZ:=zN w o9
 subst ho9
 clear h hE hb0
 go_enter Tryz.func98,Tryz.ntmps98
 have B0:=Lib.hid b0
 have B1:=Lib.hid b1
 clear b0 b1
 go_wp2_with fail
 generalize (w.alloc (.cells #[.int .i64 0,.string ⟨#[]⟩,.int .i64 0,.slice none 0 0] 24)) = w1 at *
 refine (rbegins_n HS.out B0.out).mono ?_
 rintro e w2 ⟨rfl,ht9,hs9⟩
 replace HX:=bT HX ht9 NE
 replace HZ:=zT HZ ht9
 replace HT:=tT HT ht9
 replace HS:=Lib.hid hs9
 clear ht9 hs9
 go_wp2_with fail
 refine (rbegins_y HS.out B1.out).mono ?_
 rintro e w3 ⟨rfl,ht9,hs9⟩
 replace HX:=bT HX ht9 NE
 replace HZ:=zT HZ ht9
 replace HT:=tT HT ht9
 replace HS:=Lib.hid hs9
 clear ht9 hs9
 go_wp2_with fail
 refine (rwant_two HS.out _).mono ?_
 rintro e w4 ⟨rfl,ht9,(⟨m9,s5,hr9,hs9⟩ | ⟨c9,p9,hr9,hs9⟩)⟩
 ·replace HR:=Lib.hid (HR.out.trans (bind_ok hr9))
  clear hr9
  replace HX:=bT HX ht9 NE
  replace HZ:=zT HZ ht9
  replace HT:=tT HT ht9
  replace HS:=Lib.hid hs9
  clear ht9 hs9
  go_wp2_with fail
  refine ((ihX E) _ _ HS.out (fun h => HO.out (HR.out.trans (bind_out h)))).mono ?_
  rintro e w6 hq9
  rcases hq9.two (fun h => HO.out (HR.out.trans (bind_out h))) with ⟨n_k,s7,x_k,hr9,rfl,ht9,hs9,hi9⟩ | ⟨c9,p9,x_k,hr9,rfl,ht9,hs9⟩
  ·replace HR:=Lib.hid (HR.out.trans (bind_ok hr9))
   clear hr9 hq9
   have T_k:=Lib.hid (hi9.weak (S':=(fun b => w.heap.size < b)) (fun b hb h => Nat.lt_of_lt_of_le HZ.out h))
   clear hi9
   replace HX:=bT HX ht9 NE
   replace HZ:=zT HZ ht9
   replace HT:=tT HT ht9
   replace HS:=Lib.hid hs9
   clear ht9 hs9
   have NE_k:=nE HQ HZ
   have HB_k:=nB w6 x_k
   obtain ⟨o9,ho9⟩:=oN x_k
   replace HX:=bA HX o9
   replace T_k:=nA T_k o9
   replace HS:=Lib.hid (HS.out.below (bl _ o9))
   replace HT:=tA HT o9
   replace HZ:=zA HZ o9
   subst ho9
   go_wp2_with fail
   (try rw [← (show (World.alloc w6 (.cells #[.int .i64 x_k.kind,.string x_k.text,.int .i64 x_k.num,.slice x_k.a x_k.len x_k.cap] 24)).heap.size = _ from World.size_alloc _ _)])
   generalize (World.alloc w6 (.cells #[.int .i64 x_k.kind,.string x_k.text,.int .i64 x_k.num,.slice x_k.a x_k.len x_k.cap] 24)) = w8 at *
   refine (rwant_two HS.out _).mono ?_
   rintro e w9 ⟨rfl,ht9,(⟨m9,s10,hr9,hs9⟩ | ⟨c9,p9,hr9,hs9⟩)⟩
   ·replace HR:=Lib.hid (HR.out.trans (bind_ok hr9))
    clear hr9
    replace HX:=bT HX ht9 NE
    replace HB_k:=bT HB_k ht9 NE_k
    replace T_k:=nT T_k ht9 NS
    replace HZ:=zT HZ ht9
    replace HT:=tT HT ht9
    replace HS:=Lib.hid hs9
    clear ht9 hs9
    go_wp2_with fail
    refine ((ihB E) _ _ HS.out (fun h => HO.out (HR.out.trans (bind_out h)))).mono ?_
    rintro e w11 hq9
    rcases hq9.two (fun h => HO.out (HR.out.trans (bind_out h))) with ⟨n_b,s12,x_b,hr9,rfl,ht9,hs9,hi9⟩ | ⟨c9,p9,x_b,hr9,rfl,ht9,hs9⟩
    ·replace HR:=Lib.hid (HR.out.trans (bind_ok hr9))
     clear hr9 hq9
     have T_b:=Lib.hid (hi9.weak (S':=(fun b => w.heap.size < b)) (fun b hb h => Nat.lt_of_lt_of_le HZ.out h))
     clear hi9
     replace HX:=bT HX ht9 NE
     replace HB_k:=bT HB_k ht9 NE_k
     replace T_k:=nT T_k ht9 NS
     replace HZ:=zT HZ ht9
     replace HT:=tT HT ht9
     replace HS:=Lib.hid hs9
     clear ht9 hs9
     have HZ1:=HZ
     replace T_k:=Lib.hid (T_k.out.weak (S':=(fun b => w.heap.size < b ∧ b ≠ w11.heap.size)) (fun b hb h => ⟨h,Nat.ne_of_lt hb⟩))
     replace T_b:=Lib.hid (T_b.out.weak (S':=(fun b => w.heap.size < b ∧ b ≠ w11.heap.size)) (fun b hb h => ⟨h,Nat.ne_of_lt hb⟩))
     obtain ⟨u0k,u1k,u2k,u3k,g0k,g1k,g2k,g3k,glk⟩:=HB_k.out.f4
     have NE_b:=nE HQ HZ
     have HB_b:=nB w11 x_b
     obtain ⟨o9,ho9⟩:=oN x_b
     replace HX:=bA HX o9
     replace HB_k:=bA HB_k o9
     replace T_k:=nA T_k o9
     replace T_b:=nA T_b o9
     replace HS:=Lib.hid (HS.out.below (bl _ o9))
     replace HT:=tA HT o9
     replace HZ:=zA HZ o9
     replace T_k:=Lib.hid (T_k.out.weak (S':=(fun b => w.heap.size < b ∧ b ≠ w11.heap.size ∧ b ≠ (World.heap (World.alloc w11 o9)).size)) (fun b hb h => ⟨h.1,h.2,Nat.ne_of_lt hb⟩))
     replace T_b:=Lib.hid (T_b.out.weak (S':=(fun b => w.heap.size < b ∧ b ≠ w11.heap.size ∧ b ≠ (World.heap (World.alloc w11 o9)).size)) (fun b hb h => ⟨h.1,h.2,Nat.ne_of_lt hb⟩))
     subst ho9
     have HO_r:=Lib.hid (OwnN.new (World.alloc w11 (.cells #[.int .i64 x_b.kind,.string x_b.text,.int .i64 x_b.num,.slice x_b.a x_b.len x_b.cap] 24)) (w.heap.size + 1) [x_k,x_b] (by simp) (by simp) HZ.out #[.int .i64 x_k.kind,.string x_k.text,.int .i64 x_k.num,.slice x_k.a x_k.len x_k.cap,.int .i64 x_b.kind,.string x_b.text,.int .i64 x_b.num,.slice x_b.a x_b.len x_b.cap] rfl)
     obtain ⟨o9,ho9⟩:=oN x_b
     have NR : Hid (w11.heap.size ≠ (World.heap (World.alloc w11 o9)).size):=by show _ ≠ _;rw [World.size_alloc];exact Nat.ne_of_lt (Nat.lt_succ_self _)
     subst ho9
     obtain ⟨o9,ho9⟩:=oNN x_k x_b
     replace HX:=bA HX o9
     replace HB_k:=bA HB_k o9
     replace HB_b:=bA HB_b o9
     replace T_k:=nA T_k o9
     replace T_b:=nA T_b o9
     replace HS:=Lib.hid (HS.out.below (bl _ o9))
     replace HT:=tA HT o9
     replace HZ:=zA HZ o9
     subst ho9
     have hs9:=HS.out
     have hr:=HR.out
     try dsimp only at hr
     cases h9 : seesP E.L ⟨#[101,108,115,101]⟩ s12
     ·rw [if_neg (by rw [h9];decide)] at hr
      have HE1:=Lib.hid h9
      replace HR:=Lib.hid hr
      clear h9 hr hs9
      go_wp2_with fail
      clear u0k u1k u2k u3k g0k g1k g2k g3k glk
      (try rw [← (show (World.heap (World.alloc w11 (.cells #[.int .i64 x_b.kind,.string x_b.text,.int .i64 x_b.num,.slice x_b.a x_b.len x_b.cap] 24))).size = w11.heap.size + 1 from World.size_alloc _ _)])
      (try rw [← (show (World.alloc (World.alloc w11 (.cells #[.int .i64 x_b.kind,.string x_b.text,.int .i64 x_b.num,.slice x_b.a x_b.len x_b.cap] 24)) (.cells #[.int .i64 x_k.kind,.string x_k.text,.int .i64 x_k.num,.slice x_k.a x_k.len x_k.cap,.int .i64 x_b.kind,.string x_b.text,.int .i64 x_b.num,.slice x_b.a x_b.len x_b.cap] 24)).heap.size = _ from World.size_alloc _ _)])
      generalize (World.alloc (World.alloc w11 (.cells #[.int .i64 x_b.kind,.string x_b.text,.int .i64 x_b.num,.slice x_b.a x_b.len x_b.cap] 24)) (.cells #[.int .i64 x_k.kind,.string x_k.text,.int .i64 x_k.num,.slice x_k.a x_k.len x_k.cap,.int .i64 x_b.kind,.string x_b.text,.int .i64 x_b.num,.slice x_b.a x_b.len x_b.cap] 24)) = w13 at *
      generalize (World.heap (World.alloc w11 (.cells #[.int .i64 x_b.kind,.string x_b.text,.int .i64 x_b.num,.slice x_b.a x_b.len x_b.cap] 24))).size = rb at *
      generalize w11.heap.size = bb at *
      replace NS : Hid (∀ b,(fun b => w.heap.size < b ∧ b ≠ bb ∧ b ≠ rb) b → ¬ b = E.Q):=fun b hb => NS.out b hb.1
      have NB : Hid (w.heap.size < bb):=HZ1.out
      refine (rbegins_n HS.out HE1.out).mono ?_
      rintro e w14 ⟨rfl,ht9,hs9⟩
      replace HX:=bT HX ht9 NE
      replace HB_k:=bT HB_k ht9 NE_k
      replace HB_b:=bT HB_b ht9 NE_b
      replace T_k:=nT T_k ht9 NS
      replace T_b:=nT T_b ht9 NS
      replace HO_r:=Lib.hid (HO_r.out.turned ht9 (row_ne HO_r.out HQ.out))
      replace HZ:=zT HZ ht9
      replace HT:=tT HT ht9
      replace HS:=Lib.hid hs9
      clear ht9 hs9
      have HA_r:=Lib.hid ((AllN.two T_k.out T_b.out).kept (S':=SR w (.slice (some ⟨rb,0,none⟩) 2 2)) (Nat.le_refl _) (fun _ _ _ => rfl) (fun b _ h => ⟨h.1,fun e => h.2.2 (Option.some.inj e).symm⟩))
      have NS:=Lib.hid (sr_ne (w:=w) (v:=.slice (some ⟨rb,0,none⟩) 2 2) HQ.out)
      go_wp2_with fail
      obtain ⟨A9,c9,e9,-,hn9⟩:=HO_r.out.nodes (S':=(fun b => w.heap.size < b)) HA_r.out (fun b h => h.1) (row_gt HO_r.out)
      cases e9
      have KN:=Lib.hid hn9
      clear hn9
      refine (rnode_any (r:=.ok nd0 _) 9 _ _ _ _ HS.out).mono ?_
      rintro e w15 ⟨rfl,ht9,hs9⟩
      have hs9 : RGood _ _ _:=hs9 nd0
      replace KN:=Lib.hid (KN.out.kept ht9.size (fun b hb hs => ht9.block b hb (fun e => absurd hs (by have:=HQ.out;omega))) (fun b _ h => h))
      replace HX:=bT HX ht9 NE
      replace HB_k:=bT HB_k ht9 NE_k
      replace HB_b:=bT HB_b ht9 NE_b
      replace HA_r:=Lib.hid (HA_r.out.turned ht9 (sr_ne HQ.out))
      replace HO_r:=Lib.hid (HO_r.out.turned ht9 (row_ne HO_r.out HQ.out))
      replace HZ:=zT HZ ht9
      replace HT:=tT HT ht9
      replace HS:=Lib.hid hs9
      clear ht9 hs9
      obtain ⟨u0X,u1X,u2X,u3X,g0X,g1X,g2X,g3X,glX⟩:=HX.out.f4
      go_wp2_with fail
      clear u0X u1X u2X u3X g0X g1X g2X g3X glX
      refine open_post (EndG w E _ ⟨9,⟨#[]⟩,0,(some ⟨rb,0,none⟩),([n_k,n_b]).length,2⟩ (.mk 9 ⟨#[]⟩ 0 [n_k,n_b])) (end_good HE.out HQ.out HT.out HS.out HX.out (x:=⟨9,⟨#[]⟩,0,(some ⟨rb,0,none⟩),([n_k,n_b]).length,2⟩) (n:=(.mk 9 ⟨#[]⟩ 0 [n_k,n_b])) ⟨⟨rfl,rfl,rfl,rfl⟩,KN.out⟩ (S:=(fun b => w.heap.size < b)) (fun b h => h)) ?_
      rintro W hE
      obtain ⟨v0,v1,v2,v3,-⟩:=hE.blk.f4
      exact bodyPost_ret (v:=nvA ⟨9,⟨#[]⟩,0,(some ⟨rb,0,none⟩),([n_k,n_b]).length,2⟩) (by simp [results,Tryz.results98,go_sem,v0,v1,v2,v3]) rfl (hE.done HR.out)
     ·rw [if_pos h9] at hr
      have HE1:=Lib.hid h9
      replace HR:=Lib.hid hr
      clear h9 hr hs9
      go_wp2_with fail
      clear u0k u1k u2k u3k g0k g1k g2k g3k glk
      (try rw [← (show (World.heap (World.alloc w11 (.cells #[.int .i64 x_b.kind,.string x_b.text,.int .i64 x_b.num,.slice x_b.a x_b.len x_b.cap] 24))).size = w11.heap.size + 1 from World.size_alloc _ _)])
      (try rw [← (show (World.alloc (World.alloc w11 (.cells #[.int .i64 x_b.kind,.string x_b.text,.int .i64 x_b.num,.slice x_b.a x_b.len x_b.cap] 24)) (.cells #[.int .i64 x_k.kind,.string x_k.text,.int .i64 x_k.num,.slice x_k.a x_k.len x_k.cap,.int .i64 x_b.kind,.string x_b.text,.int .i64 x_b.num,.slice x_b.a x_b.len x_b.cap] 24)).heap.size = _ from World.size_alloc _ _)])
      generalize (World.alloc (World.alloc w11 (.cells #[.int .i64 x_b.kind,.string x_b.text,.int .i64 x_b.num,.slice x_b.a x_b.len x_b.cap] 24)) (.cells #[.int .i64 x_k.kind,.string x_k.text,.int .i64 x_k.num,.slice x_k.a x_k.len x_k.cap,.int .i64 x_b.kind,.string x_b.text,.int .i64 x_b.num,.slice x_b.a x_b.len x_b.cap] 24)) = w16 at *
      generalize (World.heap (World.alloc w11 (.cells #[.int .i64 x_b.kind,.string x_b.text,.int .i64 x_b.num,.slice x_b.a x_b.len x_b.cap] 24))).size = rb at *
      generalize w11.heap.size = bb at *
      replace NS : Hid (∀ b,(fun b => w.heap.size < b ∧ b ≠ bb ∧ b ≠ rb) b → ¬ b = E.Q):=fun b hb => NS.out b hb.1
      have NB : Hid (w.heap.size < bb):=HZ1.out
      refine (rbegins_y HS.out HE1.out).mono ?_
      rintro e w17 ⟨rfl,ht9,hs9⟩
      replace HX:=bT HX ht9 NE
      replace HB_k:=bT HB_k ht9 NE_k
      replace HB_b:=bT HB_b ht9 NE_b
      replace T_k:=nT T_k ht9 NS
      replace T_b:=nT T_b ht9 NS
      replace HO_r:=Lib.hid (HO_r.out.turned ht9 (row_ne HO_r.out HQ.out))
      replace HZ:=zT HZ ht9
      replace HT:=tT HT ht9
      replace HS:=Lib.hid hs9
      clear ht9 hs9
      go_wp2_with fail
      refine ((ihB E) _ _ HS.out (fun h => HO.out (HR.out.trans (bind_out h)))).mono ?_
      rintro e w18 hq9
      rcases hq9.two (fun h => HO.out (HR.out.trans (bind_out h))) with ⟨n_c,s19,x_c,hr9,rfl,ht9,hs9,hi9⟩ | ⟨c9,p9,x_c,hr9,rfl,ht9,hs9⟩
      ·replace HR:=Lib.hid (HR.out.trans (bind_ok hr9))
       clear hr9 hq9
       have T_c:=Lib.hid (hi9.weak (S':=(fun b => w.heap.size < b ∧ b ≠ bb ∧ b ≠ rb)) (fun b hb h => ⟨Nat.lt_of_lt_of_le HZ.out h,Nat.ne_of_gt (Nat.lt_of_lt_of_le HB_b.out.lt h),Nat.ne_of_gt (Nat.lt_of_lt_of_le (HO_r.out.lt _ rfl).2 h)⟩))
       clear hi9
       replace HX:=bT HX ht9 NE
       replace HB_k:=bT HB_k ht9 NE_k
       replace HB_b:=bT HB_b ht9 NE_b
       replace T_k:=nT T_k ht9 NS
       replace T_b:=nT T_b ht9 NS
       replace HO_r:=Lib.hid (HO_r.out.turned ht9 (row_ne HO_r.out HQ.out))
       replace HZ:=zT HZ ht9
       replace HT:=tT HT ht9
       replace HS:=Lib.hid hs9
       clear ht9 hs9
       obtain ⟨u0b,u1b,u2b,u3b,g0b,g1b,g2b,g3b,glb⟩:=HB_b.out.f4
       have hbk:=box_keeps HE.out HQ.out HT.out HB_b.out NB.out (.int .i64 x_c.kind) (.string x_c.text) (.int .i64 x_c.num) (.slice x_c.a x_c.len x_c.cap) ((((World.setCell w18 ⟨bb,0,none⟩ (.int .i64 x_c.kind)).setCell ⟨bb,1,none⟩ (.string x_c.text)).setCell ⟨bb,2,none⟩ (.int .i64 x_c.num)).setCell ⟨bb,3,none⟩ (.slice x_c.a x_c.len x_c.cap)) rfl
       have HT2:=Lib.hid hbk.1
       have HB2:=Lib.hid hbk.2.2.1
       have HO2:=Lib.hid (hbk.2.2.2.2.2.2 _ (.slice (some ⟨rb,0,none⟩) 2 2) _ (fun e => NR.out (Option.some.inj e).symm) HO_r.out)
       have HX2:=Lib.hid (hbk.2.2.2.2.1 _ _ _ (Nat.ne_of_lt NB.out) HX.out)
       have HZ2 : Hid (w.heap.size < (World.heap ((((World.setCell w18 ⟨bb,0,none⟩ (.int .i64 x_c.kind)).setCell ⟨bb,1,none⟩ (.string x_c.text)).setCell ⟨bb,2,none⟩ (.int .i64 x_c.num)).setCell ⟨bb,3,none⟩ (.slice x_c.a x_c.len x_c.cap))).size):=Nat.lt_of_lt_of_le HZ.out (Nat.le_of_eq hbk.2.1)
       have HS2:=Lib.hid (hbk.2.2.2.1 (.ok nd0 _) HS.out)
       have T2_k:=Lib.hid (hbk.2.2.2.2.2.1 _ _ _ (fun b h => h.2.1) T_k.out)
       have T2_b:=Lib.hid (hbk.2.2.2.2.2.1 _ _ _ (fun b h => h.2.1) T_b.out)
       have T2_c:=Lib.hid (hbk.2.2.2.2.2.1 _ _ _ (fun b h => h.2.1) T_c.out)
       clear hbk
       obtain ⟨o9,ho9⟩:=oN x_c
       have HO3:=Lib.hid (HO2.out.alloc o9)
       subst ho9
       have hsz : (World.heap ((((World.setCell w18 ⟨bb,0,none⟩ (.int .i64 x_c.kind)).setCell ⟨bb,1,none⟩ (.string x_c.text)).setCell ⟨bb,2,none⟩ (.int .i64 x_c.num)).setCell ⟨bb,3,none⟩ (.slice x_c.a x_c.len x_c.cap))).size = (World.heap w18).size:=by simp [World.setCell]
       have LIE : Hid (LieN (World.alloc ((((World.setCell w18 ⟨bb,0,none⟩ (.int .i64 x_c.kind)).setCell ⟨bb,1,none⟩ (.string x_c.text)).setCell ⟨bb,2,none⟩ (.int .i64 x_c.num)).setCell ⟨bb,3,none⟩ (.slice x_c.a x_c.len x_c.cap)) (.cells #[.int .i64 x_c.kind,.string x_c.text,.int .i64 x_c.num,.slice x_c.a x_c.len x_c.cap] 24)) (some ⟨(World.heap w18).size,0,none⟩) [x_c]):=by have h:=lie_new ((((World.setCell w18 ⟨bb,0,none⟩ (.int .i64 x_c.kind)).setCell ⟨bb,1,none⟩ (.string x_c.text)).setCell ⟨bb,2,none⟩ (.int .i64 x_c.num)).setCell ⟨bb,3,none⟩ (.slice x_c.a x_c.len x_c.cap)) [x_c] #[.int .i64 x_c.kind,.string x_c.text,.int .i64 x_c.num,.slice x_c.a x_c.len x_c.cap] 24 rfl;rw [hsz] at h;exact h
       obtain ⟨o9,ho9⟩:=oN x_c
       have BS : Hid (w.heap.size + 1 ≤ (World.alloc ((((World.setCell w18 ⟨bb,0,none⟩ (.int .i64 x_c.kind)).setCell ⟨bb,1,none⟩ (.string x_c.text)).setCell ⟨bb,2,none⟩ (.int .i64 x_c.num)).setCell ⟨bb,3,none⟩ (.slice x_c.a x_c.len x_c.cap)) o9).heap.size):=by show _ ≤ _;rw [World.size_alloc];exact Nat.le_succ_of_le HZ2.out
       subst ho9
       have BD1 : Hid ([x_k,x_b].length ≤ 1000000):=by show _ ≤ _;simp
       have BD2 : Hid ([x_c].length ≤ 1000000):=by show _ ≤ _;simp
       clear hsz
       go_wp2_with (at_builtin;refine wpList_joinNd rfl _ _ rfl (w.heap.size + 1) _ _ rfl HO3.out (some ⟨(World.heap w18).size,0,none⟩) [x_c] 1 rfl LIE.out BD1.out BD2.out BS.out ?_;intro A5 n5 c5 w20 hown hgr hpl;have HOWN:=Lib.hid hown;have HGR:=Lib.hid hgr;have HPL:=Lib.hid hpl;clear hown hgr hpl)
       clear u0b u1b u2b u3b g0b g1b g2b g3b glb
       replace HX:=Lib.hid ((HX2.out.alloc (.cells #[.int .i64 x_c.kind,.string x_c.text,.int .i64 x_c.num,.slice x_c.a x_c.len x_c.cap] 24)).grown HGR.out (row_nw HO3.out))
       replace HZ:=Lib.hid (Nat.lt_of_lt_of_le BS.out HGR.out.size)
       replace HT:=Lib.hid ((HT2.out.alloc (.cells #[.int .i64 x_c.kind,.string x_c.text,.int .i64 x_c.num,.slice x_c.a x_c.len x_c.cap] 24)).grown HGR.out (fun k e => .inr (row_ge HO3.out k e)))
       have hs9 : RGood _ _ _:=RAt.grown (r:=.ok nd0 _) (RAt.below (r:=.ok nd0 _) HS2.out ((Below.refl _ _).alloc (Nat.le_refl _) (.cells #[.int .i64 x_c.kind,.string x_c.text,.int .i64 x_c.num,.slice x_c.a x_c.len x_c.cap] 24))) HE.out HQ.out HGR.out (row_ge HO3.out)
       obtain ⟨o9,ho9⟩:=oN x_c
       have T3_k:=Lib.hid ((T2_k.out.alloc o9).weak (S':=SR w (.slice (some ⟨rb,0,none⟩) 2 2)) (fun b _ h => ⟨h.1,fun e => h.2.2 (Option.some.inj e).symm⟩))
       have T3_b:=Lib.hid ((T2_b.out.alloc o9).weak (S':=SR w (.slice (some ⟨rb,0,none⟩) 2 2)) (fun b _ h => ⟨h.1,fun e => h.2.2 (Option.some.inj e).symm⟩))
       have T3_c:=Lib.hid ((T2_c.out.alloc o9).weak (S':=SR w (.slice (some ⟨rb,0,none⟩) 2 2)) (fun b _ h => ⟨h.1,fun e => h.2.2 (Option.some.inj e).symm⟩))
       subst ho9
       have HA_r:=Lib.hid ((AllN.two T3_k.out T3_b.out).pushed T3_c.out HO3.out HGR.out HPL.out)
       replace HS:=Lib.hid hs9
       replace HO_r:=HOWN
       clear hs9
       have NS:=Lib.hid (sr_ne (w:=w) (v:=.slice A5 n5 c5) HQ.out)
       obtain ⟨A9,c9,e9,-,hn9⟩:=HO_r.out.nodes (S':=(fun b => w.heap.size < b)) HA_r.out (fun b h => h.1) (row_gt HO_r.out)
       cases e9
       have KN:=Lib.hid hn9
       clear hn9
       refine (rnode_any (r:=.ok nd0 _) 9 _ _ _ _ HS.out).mono ?_
       rintro e w21 ⟨rfl,ht9,hs9⟩
       have hs9 : RGood _ _ _:=hs9 nd0
       replace KN:=Lib.hid (KN.out.kept ht9.size (fun b hb hs => ht9.block b hb (fun e => absurd hs (by have:=HQ.out;omega))) (fun b _ h => h))
       replace HX:=bT HX ht9 NE
       replace HA_r:=Lib.hid (HA_r.out.turned ht9 (sr_ne HQ.out))
       replace HO_r:=Lib.hid (HO_r.out.turned ht9 (row_ne HO_r.out HQ.out))
       replace HZ:=zT HZ ht9
       replace HT:=tT HT ht9
       replace HS:=Lib.hid hs9
       clear ht9 hs9
       obtain ⟨u0X,u1X,u2X,u3X,g0X,g1X,g2X,g3X,glX⟩:=HX.out.f4
       go_wp2_with fail
       clear u0X u1X u2X u3X g0X g1X g2X g3X glX
       refine open_post (EndG w E _ ⟨9,⟨#[]⟩,0,A5,([n_k,n_b,n_c]).length,c5⟩ (.mk 9 ⟨#[]⟩ 0 [n_k,n_b,n_c])) (end_good HE.out HQ.out HT.out HS.out HX.out (x:=⟨9,⟨#[]⟩,0,A5,([n_k,n_b,n_c]).length,c5⟩) (n:=(.mk 9 ⟨#[]⟩ 0 [n_k,n_b,n_c])) ⟨⟨rfl,rfl,rfl,rfl⟩,KN.out⟩ (S:=(fun b => w.heap.size < b)) (fun b h => h)) ?_
       rintro W hE
       obtain ⟨v0,v1,v2,v3,-⟩:=hE.blk.f4
       exact bodyPost_ret (v:=nvA ⟨9,⟨#[]⟩,0,A5,([n_k,n_b,n_c]).length,c5⟩) (by simp [results,Tryz.results98,go_sem,v0,v1,v2,v3]) rfl (hE.done HR.out)
      ·replace HR:=Lib.hid (HR.out.trans (bind_no hr9))
       clear hr9 hq9
       replace HX:=bT HX ht9 NE
       replace HB_k:=bT HB_k ht9 NE_k
       replace HB_b:=bT HB_b ht9 NE_b
       replace HO_r:=Lib.hid (HO_r.out.turned ht9 (row_ne HO_r.out HQ.out))
       replace HZ:=zT HZ ht9
       replace HT:=tT HT ht9
       replace HS:=Lib.hid hs9
       clear ht9 hs9
       obtain ⟨u0b,u1b,u2b,u3b,g0b,g1b,g2b,g3b,glb⟩:=HB_b.out.f4
       have hbk:=box_keeps HE.out HQ.out HT.out HB_b.out NB.out (.int .i64 x_c.kind) (.string x_c.text) (.int .i64 x_c.num) (.slice x_c.a x_c.len x_c.cap) ((((World.setCell w18 ⟨bb,0,none⟩ (.int .i64 x_c.kind)).setCell ⟨bb,1,none⟩ (.string x_c.text)).setCell ⟨bb,2,none⟩ (.int .i64 x_c.num)).setCell ⟨bb,3,none⟩ (.slice x_c.a x_c.len x_c.cap)) rfl
       have HT2:=Lib.hid hbk.1
       have HB2:=Lib.hid hbk.2.2.1
       have HO2:=Lib.hid (hbk.2.2.2.2.2.2 _ (.slice (some ⟨rb,0,none⟩) 2 2) _ (fun e => NR.out (Option.some.inj e).symm) HO_r.out)
       have HX2:=Lib.hid (hbk.2.2.2.2.1 _ _ _ (Nat.ne_of_lt NB.out) HX.out)
       have HZ2 : Hid (w.heap.size < (World.heap ((((World.setCell w18 ⟨bb,0,none⟩ (.int .i64 x_c.kind)).setCell ⟨bb,1,none⟩ (.string x_c.text)).setCell ⟨bb,2,none⟩ (.int .i64 x_c.num)).setCell ⟨bb,3,none⟩ (.slice x_c.a x_c.len x_c.cap))).size):=Nat.lt_of_lt_of_le HZ.out (Nat.le_of_eq hbk.2.1)
       have HS2:=Lib.hid (hbk.2.2.2.1 (.no _ _) HS.out)
       clear hbk
       obtain ⟨o9,ho9⟩:=oN x_c
       have HO3:=Lib.hid (HO2.out.alloc o9)
       subst ho9
       have hsz : (World.heap ((((World.setCell w18 ⟨bb,0,none⟩ (.int .i64 x_c.kind)).setCell ⟨bb,1,none⟩ (.string x_c.text)).setCell ⟨bb,2,none⟩ (.int .i64 x_c.num)).setCell ⟨bb,3,none⟩ (.slice x_c.a x_c.len x_c.cap))).size = (World.heap w18).size:=by simp [World.setCell]
       have LIE : Hid (LieN (World.alloc ((((World.setCell w18 ⟨bb,0,none⟩ (.int .i64 x_c.kind)).setCell ⟨bb,1,none⟩ (.string x_c.text)).setCell ⟨bb,2,none⟩ (.int .i64 x_c.num)).setCell ⟨bb,3,none⟩ (.slice x_c.a x_c.len x_c.cap)) (.cells #[.int .i64 x_c.kind,.string x_c.text,.int .i64 x_c.num,.slice x_c.a x_c.len x_c.cap] 24)) (some ⟨(World.heap w18).size,0,none⟩) [x_c]):=by have h:=lie_new ((((World.setCell w18 ⟨bb,0,none⟩ (.int .i64 x_c.kind)).setCell ⟨bb,1,none⟩ (.string x_c.text)).setCell ⟨bb,2,none⟩ (.int .i64 x_c.num)).setCell ⟨bb,3,none⟩ (.slice x_c.a x_c.len x_c.cap)) [x_c] #[.int .i64 x_c.kind,.string x_c.text,.int .i64 x_c.num,.slice x_c.a x_c.len x_c.cap] 24 rfl;rw [hsz] at h;exact h
       obtain ⟨o9,ho9⟩:=oN x_c
       have BS : Hid (w.heap.size + 1 ≤ (World.alloc ((((World.setCell w18 ⟨bb,0,none⟩ (.int .i64 x_c.kind)).setCell ⟨bb,1,none⟩ (.string x_c.text)).setCell ⟨bb,2,none⟩ (.int .i64 x_c.num)).setCell ⟨bb,3,none⟩ (.slice x_c.a x_c.len x_c.cap)) o9).heap.size):=by show _ ≤ _;rw [World.size_alloc];exact Nat.le_succ_of_le HZ2.out
       subst ho9
       have BD1 : Hid ([x_k,x_b].length ≤ 1000000):=by show _ ≤ _;simp
       have BD2 : Hid ([x_c].length ≤ 1000000):=by show _ ≤ _;simp
       clear hsz
       go_wp2_with (at_builtin;refine wpList_joinNd rfl _ _ rfl (w.heap.size + 1) _ _ rfl HO3.out (some ⟨(World.heap w18).size,0,none⟩) [x_c] 1 rfl LIE.out BD1.out BD2.out BS.out ?_;intro A5 n5 c5 w22 hown hgr hpl;have HOWN:=Lib.hid hown;have HGR:=Lib.hid hgr;have HPL:=Lib.hid hpl;clear hown hgr hpl)
       clear u0b u1b u2b u3b g0b g1b g2b g3b glb
       replace HX:=Lib.hid ((HX2.out.alloc (.cells #[.int .i64 x_c.kind,.string x_c.text,.int .i64 x_c.num,.slice x_c.a x_c.len x_c.cap] 24)).grown HGR.out (row_nw HO3.out))
       replace HZ:=Lib.hid (Nat.lt_of_lt_of_le BS.out HGR.out.size)
       replace HT:=Lib.hid ((HT2.out.alloc (.cells #[.int .i64 x_c.kind,.string x_c.text,.int .i64 x_c.num,.slice x_c.a x_c.len x_c.cap] 24)).grown HGR.out (fun k e => .inr (row_ge HO3.out k e)))
       have hs9 : RBad _ _ _ _:=RAt.grown (r:=.no _ _) (RAt.below (r:=.no _ _) HS2.out ((Below.refl _ _).alloc (Nat.le_refl _) (.cells #[.int .i64 x_c.kind,.string x_c.text,.int .i64 x_c.num,.slice x_c.a x_c.len x_c.cap] 24))) HE.out HQ.out HGR.out (row_ge HO3.out)
       replace HS:=Lib.hid hs9
       replace HO_r:=HOWN
       clear hs9
       have NS:=Lib.hid (sr_ne (w:=w) (v:=.slice A5 n5 c5) HQ.out)
       refine (rnode_bad HS.out 9 _ _ _ _).mono ?_
       rintro e w23 ⟨rfl,ht9,hs9⟩
       replace HX:=bT HX ht9 NE
       replace HO_r:=Lib.hid (HO_r.out.turned ht9 (row_ne HO_r.out HQ.out))
       replace HZ:=zT HZ ht9
       replace HT:=tT HT ht9
       replace HS:=Lib.hid hs9
       clear ht9 hs9
       obtain ⟨u0X,u1X,u2X,u3X,g0X,g1X,g2X,g3X,glX⟩:=HX.out.f4
       go_wp2_with fail
       clear u0X u1X u2X u3X g0X g1X g2X g3X glX
       refine open_post (EndB w E _ _ _) (end_bad HE.out HQ.out HT.out HS.out HX.out (x:=⟨_,_,_,_,_,_⟩)) ?_
       rintro W hE
       obtain ⟨v0,v1,v2,v3,-⟩:=hE.blk.f4
       exact bodyPost_ret (v:=nvA ⟨_,_,_,_,_,_⟩) (by simp [results,Tryz.results98,go_sem,v0,v1,v2,v3]) rfl (hE.done HR.out)
    ·replace HR:=Lib.hid (HR.out.trans (bind_no hr9))
     clear hr9 hq9
     replace HX:=bT HX ht9 NE
     replace HB_k:=bT HB_k ht9 NE_k
     replace HZ:=zT HZ ht9
     replace HT:=tT HT ht9
     replace HS:=Lib.hid hs9
     clear ht9 hs9
     have HZ1:=HZ
     obtain ⟨u0k,u1k,u2k,u3k,g0k,g1k,g2k,g3k,glk⟩:=HB_k.out.f4
     have NE_b:=nE HQ HZ
     have HB_b:=nB w11 x_b
     obtain ⟨o9,ho9⟩:=oN x_b
     replace HX:=bA HX o9
     replace HB_k:=bA HB_k o9
     replace HS:=Lib.hid (HS.out.below (bl _ o9))
     replace HT:=tA HT o9
     replace HZ:=zA HZ o9
     subst ho9
     have HO_r:=Lib.hid (OwnN.new (World.alloc w11 (.cells #[.int .i64 x_b.kind,.string x_b.text,.int .i64 x_b.num,.slice x_b.a x_b.len x_b.cap] 24)) (w.heap.size + 1) [x_k,x_b] (by simp) (by simp) HZ.out #[.int .i64 x_k.kind,.string x_k.text,.int .i64 x_k.num,.slice x_k.a x_k.len x_k.cap,.int .i64 x_b.kind,.string x_b.text,.int .i64 x_b.num,.slice x_b.a x_b.len x_b.cap] rfl)
     obtain ⟨o9,ho9⟩:=oN x_b
     have NR : Hid (w11.heap.size ≠ (World.heap (World.alloc w11 o9)).size):=by show _ ≠ _;rw [World.size_alloc];exact Nat.ne_of_lt (Nat.lt_succ_self _)
     subst ho9
     obtain ⟨o9,ho9⟩:=oNN x_k x_b
     replace HX:=bA HX o9
     replace HB_k:=bA HB_k o9
     replace HB_b:=bA HB_b o9
     replace HS:=Lib.hid (HS.out.below (bl _ o9))
     replace HT:=tA HT o9
     replace HZ:=zA HZ o9
     subst ho9
     go_wp2_with fail
     clear u0k u1k u2k u3k g0k g1k g2k g3k glk
     (try rw [← (show (World.heap (World.alloc w11 (.cells #[.int .i64 x_b.kind,.string x_b.text,.int .i64 x_b.num,.slice x_b.a x_b.len x_b.cap] 24))).size = w11.heap.size + 1 from World.size_alloc _ _)])
     (try rw [← (show (World.alloc (World.alloc w11 (.cells #[.int .i64 x_b.kind,.string x_b.text,.int .i64 x_b.num,.slice x_b.a x_b.len x_b.cap] 24)) (.cells #[.int .i64 x_k.kind,.string x_k.text,.int .i64 x_k.num,.slice x_k.a x_k.len x_k.cap,.int .i64 x_b.kind,.string x_b.text,.int .i64 x_b.num,.slice x_b.a x_b.len x_b.cap] 24)).heap.size = _ from World.size_alloc _ _)])
     generalize (World.alloc (World.alloc w11 (.cells #[.int .i64 x_b.kind,.string x_b.text,.int .i64 x_b.num,.slice x_b.a x_b.len x_b.cap] 24)) (.cells #[.int .i64 x_k.kind,.string x_k.text,.int .i64 x_k.num,.slice x_k.a x_k.len x_k.cap,.int .i64 x_b.kind,.string x_b.text,.int .i64 x_b.num,.slice x_b.a x_b.len x_b.cap] 24)) = w24 at *
     generalize (World.heap (World.alloc w11 (.cells #[.int .i64 x_b.kind,.string x_b.text,.int .i64 x_b.num,.slice x_b.a x_b.len x_b.cap] 24))).size = rb at *
     generalize w11.heap.size = bb at *
     refine (rbegins_bad HS.out _).mono ?_
     rintro e w25 ⟨rfl,ht9,hs9⟩
     replace HX:=bT HX ht9 NE
     replace HB_k:=bT HB_k ht9 NE_k
     replace HB_b:=bT HB_b ht9 NE_b
     replace HO_r:=Lib.hid (HO_r.out.turned ht9 (row_ne HO_r.out HQ.out))
     replace HZ:=zT HZ ht9
     replace HT:=tT HT ht9
     replace HS:=Lib.hid hs9
     clear ht9 hs9
     go_wp2_with fail
     refine (rnode_bad HS.out 9 _ _ _ _).mono ?_
     rintro e w26 ⟨rfl,ht9,hs9⟩
     replace HX:=bT HX ht9 NE
     replace HB_k:=bT HB_k ht9 NE_k
     replace HB_b:=bT HB_b ht9 NE_b
     replace HO_r:=Lib.hid (HO_r.out.turned ht9 (row_ne HO_r.out HQ.out))
     replace HZ:=zT HZ ht9
     replace HT:=tT HT ht9
     replace HS:=Lib.hid hs9
     clear ht9 hs9
     obtain ⟨u0X,u1X,u2X,u3X,g0X,g1X,g2X,g3X,glX⟩:=HX.out.f4
     go_wp2_with fail
     clear u0X u1X u2X u3X g0X g1X g2X g3X glX
     refine open_post (EndB w E _ _ _) (end_bad HE.out HQ.out HT.out HS.out HX.out (x:=⟨_,_,_,_,_,_⟩)) ?_
     rintro W hE
     obtain ⟨v0,v1,v2,v3,-⟩:=hE.blk.f4
     exact bodyPost_ret (v:=nvA ⟨_,_,_,_,_,_⟩) (by simp [results,Tryz.results98,go_sem,v0,v1,v2,v3]) rfl (hE.done HR.out)
   ·replace HR:=Lib.hid (HR.out.trans (bind_no hr9))
    clear hr9
    replace HX:=bT HX ht9 NE
    replace HB_k:=bT HB_k ht9 NE_k
    replace HZ:=zT HZ ht9
    replace HT:=tT HT ht9
    replace HS:=Lib.hid hs9
    clear ht9 hs9
    go_wp2_with fail
    refine ((bdB E _ _ _) HS.out).mono ?_
    rintro e w27 ⟨x_b,rfl,ht9,hs9,-⟩
    have hs9 : RBad _ _ _ _:=hs9
    replace HX:=bT HX ht9 NE
    replace HB_k:=bT HB_k ht9 NE_k
    replace HZ:=zT HZ ht9
    replace HT:=tT HT ht9
    replace HS:=Lib.hid hs9
    clear ht9 hs9
    have HZ1:=HZ
    obtain ⟨u0k,u1k,u2k,u3k,g0k,g1k,g2k,g3k,glk⟩:=HB_k.out.f4
    have NE_b:=nE HQ HZ
    have HB_b:=nB w27 x_b
    obtain ⟨o9,ho9⟩:=oN x_b
    replace HX:=bA HX o9
    replace HB_k:=bA HB_k o9
    replace HS:=Lib.hid (HS.out.below (bl _ o9))
    replace HT:=tA HT o9
    replace HZ:=zA HZ o9
    subst ho9
    have HO_r:=Lib.hid (OwnN.new (World.alloc w27 (.cells #[.int .i64 x_b.kind,.string x_b.text,.int .i64 x_b.num,.slice x_b.a x_b.len x_b.cap] 24)) (w.heap.size + 1) [x_k,x_b] (by simp) (by simp) HZ.out #[.int .i64 x_k.kind,.string x_k.text,.int .i64 x_k.num,.slice x_k.a x_k.len x_k.cap,.int .i64 x_b.kind,.string x_b.text,.int .i64 x_b.num,.slice x_b.a x_b.len x_b.cap] rfl)
    obtain ⟨o9,ho9⟩:=oN x_b
    have NR : Hid (w27.heap.size ≠ (World.heap (World.alloc w27 o9)).size):=by show _ ≠ _;rw [World.size_alloc];exact Nat.ne_of_lt (Nat.lt_succ_self _)
    subst ho9
    obtain ⟨o9,ho9⟩:=oNN x_k x_b
    replace HX:=bA HX o9
    replace HB_k:=bA HB_k o9
    replace HB_b:=bA HB_b o9
    replace HS:=Lib.hid (HS.out.below (bl _ o9))
    replace HT:=tA HT o9
    replace HZ:=zA HZ o9
    subst ho9
    go_wp2_with fail
    clear u0k u1k u2k u3k g0k g1k g2k g3k glk
    (try rw [← (show (World.heap (World.alloc w27 (.cells #[.int .i64 x_b.kind,.string x_b.text,.int .i64 x_b.num,.slice x_b.a x_b.len x_b.cap] 24))).size = w27.heap.size + 1 from World.size_alloc _ _)])
    (try rw [← (show (World.alloc (World.alloc w27 (.cells #[.int .i64 x_b.kind,.string x_b.text,.int .i64 x_b.num,.slice x_b.a x_b.len x_b.cap] 24)) (.cells #[.int .i64 x_k.kind,.string x_k.text,.int .i64 x_k.num,.slice x_k.a x_k.len x_k.cap,.int .i64 x_b.kind,.string x_b.text,.int .i64 x_b.num,.slice x_b.a x_b.len x_b.cap] 24)).heap.size = _ from World.size_alloc _ _)])
    generalize (World.alloc (World.alloc w27 (.cells #[.int .i64 x_b.kind,.string x_b.text,.int .i64 x_b.num,.slice x_b.a x_b.len x_b.cap] 24)) (.cells #[.int .i64 x_k.kind,.string x_k.text,.int .i64 x_k.num,.slice x_k.a x_k.len x_k.cap,.int .i64 x_b.kind,.string x_b.text,.int .i64 x_b.num,.slice x_b.a x_b.len x_b.cap] 24)) = w29 at *
    generalize (World.heap (World.alloc w27 (.cells #[.int .i64 x_b.kind,.string x_b.text,.int .i64 x_b.num,.slice x_b.a x_b.len x_b.cap] 24))).size = rb at *
    generalize w27.heap.size = bb at *
    refine (rbegins_bad HS.out _).mono ?_
    rintro e w30 ⟨rfl,ht9,hs9⟩
    replace HX:=bT HX ht9 NE
    replace HB_k:=bT HB_k ht9 NE_k
    replace HB_b:=bT HB_b ht9 NE_b
    replace HO_r:=Lib.hid (HO_r.out.turned ht9 (row_ne HO_r.out HQ.out))
    replace HZ:=zT HZ ht9
    replace HT:=tT HT ht9
    replace HS:=Lib.hid hs9
    clear ht9 hs9
    go_wp2_with fail
    refine (rnode_bad HS.out 9 _ _ _ _).mono ?_
    rintro e w31 ⟨rfl,ht9,hs9⟩
    replace HX:=bT HX ht9 NE
    replace HB_k:=bT HB_k ht9 NE_k
    replace HB_b:=bT HB_b ht9 NE_b
    replace HO_r:=Lib.hid (HO_r.out.turned ht9 (row_ne HO_r.out HQ.out))
    replace HZ:=zT HZ ht9
    replace HT:=tT HT ht9
    replace HS:=Lib.hid hs9
    clear ht9 hs9
    obtain ⟨u0X,u1X,u2X,u3X,g0X,g1X,g2X,g3X,glX⟩:=HX.out.f4
    go_wp2_with fail
    clear u0X u1X u2X u3X g0X g1X g2X g3X glX
    refine open_post (EndB w E _ _ _) (end_bad HE.out HQ.out HT.out HS.out HX.out (x:=⟨_,_,_,_,_,_⟩)) ?_
    rintro W hE
    obtain ⟨v0,v1,v2,v3,-⟩:=hE.blk.f4
    exact bodyPost_ret (v:=nvA ⟨_,_,_,_,_,_⟩) (by simp [results,Tryz.results98,go_sem,v0,v1,v2,v3]) rfl (hE.done HR.out)
  ·replace HR:=Lib.hid (HR.out.trans (bind_no hr9))
   clear hr9 hq9
   replace HX:=bT HX ht9 NE
   replace HZ:=zT HZ ht9
   replace HT:=tT HT ht9
   replace HS:=Lib.hid hs9
   clear ht9 hs9
   have NE_k:=nE HQ HZ
   have HB_k:=nB w6 x_k
   obtain ⟨o9,ho9⟩:=oN x_k
   replace HX:=bA HX o9
   replace HS:=Lib.hid (HS.out.below (bl _ o9))
   replace HT:=tA HT o9
   replace HZ:=zA HZ o9
   subst ho9
   go_wp2_with fail
   (try rw [← (show (World.alloc w6 (.cells #[.int .i64 x_k.kind,.string x_k.text,.int .i64 x_k.num,.slice x_k.a x_k.len x_k.cap] 24)).heap.size = _ from World.size_alloc _ _)])
   generalize (World.alloc w6 (.cells #[.int .i64 x_k.kind,.string x_k.text,.int .i64 x_k.num,.slice x_k.a x_k.len x_k.cap] 24)) = w32 at *
   refine (rwant_bad HS.out _).mono ?_
   rintro e w33 ⟨rfl,ht9,hs9⟩
   replace HX:=bT HX ht9 NE
   replace HB_k:=bT HB_k ht9 NE_k
   replace HZ:=zT HZ ht9
   replace HT:=tT HT ht9
   replace HS:=Lib.hid hs9
   clear ht9 hs9
   go_wp2_with fail
   refine ((bdB E _ _ _) HS.out).mono ?_
   rintro e w34 ⟨x_b,rfl,ht9,hs9,-⟩
   have hs9 : RBad _ _ _ _:=hs9
   replace HX:=bT HX ht9 NE
   replace HB_k:=bT HB_k ht9 NE_k
   replace HZ:=zT HZ ht9
   replace HT:=tT HT ht9
   replace HS:=Lib.hid hs9
   clear ht9 hs9
   have HZ1:=HZ
   obtain ⟨u0k,u1k,u2k,u3k,g0k,g1k,g2k,g3k,glk⟩:=HB_k.out.f4
   have NE_b:=nE HQ HZ
   have HB_b:=nB w34 x_b
   obtain ⟨o9,ho9⟩:=oN x_b
   replace HX:=bA HX o9
   replace HB_k:=bA HB_k o9
   replace HS:=Lib.hid (HS.out.below (bl _ o9))
   replace HT:=tA HT o9
   replace HZ:=zA HZ o9
   subst ho9
   have HO_r:=Lib.hid (OwnN.new (World.alloc w34 (.cells #[.int .i64 x_b.kind,.string x_b.text,.int .i64 x_b.num,.slice x_b.a x_b.len x_b.cap] 24)) (w.heap.size + 1) [x_k,x_b] (by simp) (by simp) HZ.out #[.int .i64 x_k.kind,.string x_k.text,.int .i64 x_k.num,.slice x_k.a x_k.len x_k.cap,.int .i64 x_b.kind,.string x_b.text,.int .i64 x_b.num,.slice x_b.a x_b.len x_b.cap] rfl)
   obtain ⟨o9,ho9⟩:=oN x_b
   have NR : Hid (w34.heap.size ≠ (World.heap (World.alloc w34 o9)).size):=by show _ ≠ _;rw [World.size_alloc];exact Nat.ne_of_lt (Nat.lt_succ_self _)
   subst ho9
   obtain ⟨o9,ho9⟩:=oNN x_k x_b
   replace HX:=bA HX o9
   replace HB_k:=bA HB_k o9
   replace HB_b:=bA HB_b o9
   replace HS:=Lib.hid (HS.out.below (bl _ o9))
   replace HT:=tA HT o9
   replace HZ:=zA HZ o9
   subst ho9
   go_wp2_with fail
   clear u0k u1k u2k u3k g0k g1k g2k g3k glk
   (try rw [← (show (World.heap (World.alloc w34 (.cells #[.int .i64 x_b.kind,.string x_b.text,.int .i64 x_b.num,.slice x_b.a x_b.len x_b.cap] 24))).size = w34.heap.size + 1 from World.size_alloc _ _)])
   (try rw [← (show (World.alloc (World.alloc w34 (.cells #[.int .i64 x_b.kind,.string x_b.text,.int .i64 x_b.num,.slice x_b.a x_b.len x_b.cap] 24)) (.cells #[.int .i64 x_k.kind,.string x_k.text,.int .i64 x_k.num,.slice x_k.a x_k.len x_k.cap,.int .i64 x_b.kind,.string x_b.text,.int .i64 x_b.num,.slice x_b.a x_b.len x_b.cap] 24)).heap.size = _ from World.size_alloc _ _)])
   generalize (World.alloc (World.alloc w34 (.cells #[.int .i64 x_b.kind,.string x_b.text,.int .i64 x_b.num,.slice x_b.a x_b.len x_b.cap] 24)) (.cells #[.int .i64 x_k.kind,.string x_k.text,.int .i64 x_k.num,.slice x_k.a x_k.len x_k.cap,.int .i64 x_b.kind,.string x_b.text,.int .i64 x_b.num,.slice x_b.a x_b.len x_b.cap] 24)) = w36 at *
   generalize (World.heap (World.alloc w34 (.cells #[.int .i64 x_b.kind,.string x_b.text,.int .i64 x_b.num,.slice x_b.a x_b.len x_b.cap] 24))).size = rb at *
   generalize w34.heap.size = bb at *
   refine (rbegins_bad HS.out _).mono ?_
   rintro e w37 ⟨rfl,ht9,hs9⟩
   replace HX:=bT HX ht9 NE
   replace HB_k:=bT HB_k ht9 NE_k
   replace HB_b:=bT HB_b ht9 NE_b
   replace HO_r:=Lib.hid (HO_r.out.turned ht9 (row_ne HO_r.out HQ.out))
   replace HZ:=zT HZ ht9
   replace HT:=tT HT ht9
   replace HS:=Lib.hid hs9
   clear ht9 hs9
   go_wp2_with fail
   refine (rnode_bad HS.out 9 _ _ _ _).mono ?_
   rintro e w38 ⟨rfl,ht9,hs9⟩
   replace HX:=bT HX ht9 NE
   replace HB_k:=bT HB_k ht9 NE_k
   replace HB_b:=bT HB_b ht9 NE_b
   replace HO_r:=Lib.hid (HO_r.out.turned ht9 (row_ne HO_r.out HQ.out))
   replace HZ:=zT HZ ht9
   replace HT:=tT HT ht9
   replace HS:=Lib.hid hs9
   clear ht9 hs9
   obtain ⟨u0X,u1X,u2X,u3X,g0X,g1X,g2X,g3X,glX⟩:=HX.out.f4
   go_wp2_with fail
   clear u0X u1X u2X u3X g0X g1X g2X g3X glX
   refine open_post (EndB w E _ _ _) (end_bad HE.out HQ.out HT.out HS.out HX.out (x:=⟨_,_,_,_,_,_⟩)) ?_
   rintro W hE
   obtain ⟨v0,v1,v2,v3,-⟩:=hE.blk.f4
   exact bodyPost_ret (v:=nvA ⟨_,_,_,_,_,_⟩) (by simp [results,Tryz.results98,go_sem,v0,v1,v2,v3]) rfl (hE.done HR.out)
 ·replace HR:=Lib.hid (HR.out.trans (bind_no hr9))
  clear hr9
  replace HX:=bT HX ht9 NE
  replace HZ:=zT HZ ht9
  replace HT:=tT HT ht9
  replace HS:=Lib.hid hs9
  clear ht9 hs9
  go_wp2_with fail
  refine ((bdX E _ _ _) HS.out).mono ?_
  rintro e w39 ⟨x_k,rfl,ht9,hs9,-⟩
  have hs9 : RBad _ _ _ _:=hs9
  replace HX:=bT HX ht9 NE
  replace HZ:=zT HZ ht9
  replace HT:=tT HT ht9
  replace HS:=Lib.hid hs9
  clear ht9 hs9
  have NE_k:=nE HQ HZ
  have HB_k:=nB w39 x_k
  obtain ⟨o9,ho9⟩:=oN x_k
  replace HX:=bA HX o9
  replace HS:=Lib.hid (HS.out.below (bl _ o9))
  replace HT:=tA HT o9
  replace HZ:=zA HZ o9
  subst ho9
  go_wp2_with fail
  (try rw [← (show (World.alloc w39 (.cells #[.int .i64 x_k.kind,.string x_k.text,.int .i64 x_k.num,.slice x_k.a x_k.len x_k.cap] 24)).heap.size = _ from World.size_alloc _ _)])
  generalize (World.alloc w39 (.cells #[.int .i64 x_k.kind,.string x_k.text,.int .i64 x_k.num,.slice x_k.a x_k.len x_k.cap] 24)) = w41 at *
  refine (rwant_bad HS.out _).mono ?_
  rintro e w42 ⟨rfl,ht9,hs9⟩
  replace HX:=bT HX ht9 NE
  replace HB_k:=bT HB_k ht9 NE_k
  replace HZ:=zT HZ ht9
  replace HT:=tT HT ht9
  replace HS:=Lib.hid hs9
  clear ht9 hs9
  go_wp2_with fail
  refine ((bdB E _ _ _) HS.out).mono ?_
  rintro e w43 ⟨x_b,rfl,ht9,hs9,-⟩
  have hs9 : RBad _ _ _ _:=hs9
  replace HX:=bT HX ht9 NE
  replace HB_k:=bT HB_k ht9 NE_k
  replace HZ:=zT HZ ht9
  replace HT:=tT HT ht9
  replace HS:=Lib.hid hs9
  clear ht9 hs9
  have HZ1:=HZ
  obtain ⟨u0k,u1k,u2k,u3k,g0k,g1k,g2k,g3k,glk⟩:=HB_k.out.f4
  have NE_b:=nE HQ HZ
  have HB_b:=nB w43 x_b
  obtain ⟨o9,ho9⟩:=oN x_b
  replace HX:=bA HX o9
  replace HB_k:=bA HB_k o9
  replace HS:=Lib.hid (HS.out.below (bl _ o9))
  replace HT:=tA HT o9
  replace HZ:=zA HZ o9
  subst ho9
  have HO_r:=Lib.hid (OwnN.new (World.alloc w43 (.cells #[.int .i64 x_b.kind,.string x_b.text,.int .i64 x_b.num,.slice x_b.a x_b.len x_b.cap] 24)) (w.heap.size + 1) [x_k,x_b] (by simp) (by simp) HZ.out #[.int .i64 x_k.kind,.string x_k.text,.int .i64 x_k.num,.slice x_k.a x_k.len x_k.cap,.int .i64 x_b.kind,.string x_b.text,.int .i64 x_b.num,.slice x_b.a x_b.len x_b.cap] rfl)
  obtain ⟨o9,ho9⟩:=oN x_b
  have NR : Hid (w43.heap.size ≠ (World.heap (World.alloc w43 o9)).size):=by show _ ≠ _;rw [World.size_alloc];exact Nat.ne_of_lt (Nat.lt_succ_self _)
  subst ho9
  obtain ⟨o9,ho9⟩:=oNN x_k x_b
  replace HX:=bA HX o9
  replace HB_k:=bA HB_k o9
  replace HB_b:=bA HB_b o9
  replace HS:=Lib.hid (HS.out.below (bl _ o9))
  replace HT:=tA HT o9
  replace HZ:=zA HZ o9
  subst ho9
  go_wp2_with fail
  clear u0k u1k u2k u3k g0k g1k g2k g3k glk
  (try rw [← (show (World.heap (World.alloc w43 (.cells #[.int .i64 x_b.kind,.string x_b.text,.int .i64 x_b.num,.slice x_b.a x_b.len x_b.cap] 24))).size = w43.heap.size + 1 from World.size_alloc _ _)])
  (try rw [← (show (World.alloc (World.alloc w43 (.cells #[.int .i64 x_b.kind,.string x_b.text,.int .i64 x_b.num,.slice x_b.a x_b.len x_b.cap] 24)) (.cells #[.int .i64 x_k.kind,.string x_k.text,.int .i64 x_k.num,.slice x_k.a x_k.len x_k.cap,.int .i64 x_b.kind,.string x_b.text,.int .i64 x_b.num,.slice x_b.a x_b.len x_b.cap] 24)).heap.size = _ from World.size_alloc _ _)])
  generalize (World.alloc (World.alloc w43 (.cells #[.int .i64 x_b.kind,.string x_b.text,.int .i64 x_b.num,.slice x_b.a x_b.len x_b.cap] 24)) (.cells #[.int .i64 x_k.kind,.string x_k.text,.int .i64 x_k.num,.slice x_k.a x_k.len x_k.cap,.int .i64 x_b.kind,.string x_b.text,.int .i64 x_b.num,.slice x_b.a x_b.len x_b.cap] 24)) = w45 at *
  generalize (World.heap (World.alloc w43 (.cells #[.int .i64 x_b.kind,.string x_b.text,.int .i64 x_b.num,.slice x_b.a x_b.len x_b.cap] 24))).size = rb at *
  generalize w43.heap.size = bb at *
  refine (rbegins_bad HS.out _).mono ?_
  rintro e w46 ⟨rfl,ht9,hs9⟩
  replace HX:=bT HX ht9 NE
  replace HB_k:=bT HB_k ht9 NE_k
  replace HB_b:=bT HB_b ht9 NE_b
  replace HO_r:=Lib.hid (HO_r.out.turned ht9 (row_ne HO_r.out HQ.out))
  replace HZ:=zT HZ ht9
  replace HT:=tT HT ht9
  replace HS:=Lib.hid hs9
  clear ht9 hs9
  go_wp2_with fail
  refine (rnode_bad HS.out 9 _ _ _ _).mono ?_
  rintro e w47 ⟨rfl,ht9,hs9⟩
  replace HX:=bT HX ht9 NE
  replace HB_k:=bT HB_k ht9 NE_k
  replace HB_b:=bT HB_b ht9 NE_b
  replace HO_r:=Lib.hid (HO_r.out.turned ht9 (row_ne HO_r.out HQ.out))
  replace HZ:=zT HZ ht9
  replace HT:=tT HT ht9
  replace HS:=Lib.hid hs9
  clear ht9 hs9
  obtain ⟨u0X,u1X,u2X,u3X,g0X,g1X,g2X,g3X,glX⟩:=HX.out.f4
  go_wp2_with fail
  clear u0X u1X u2X u3X g0X g1X g2X g3X glX
  refine open_post (EndB w E _ _ _) (end_bad HE.out HQ.out HT.out HS.out HX.out (x:=⟨_,_,_,_,_,_⟩)) ?_
  rintro W hE
  obtain ⟨v0,v1,v2,v3,-⟩:=hE.blk.f4
  exact bodyPost_ret (v:=nvA ⟨_,_,_,_,_,_⟩) (by simp [results,Tryz.results98,go_sem,v0,v1,v2,v3]) rfl (hE.done HR.out)
set_option maxRecDepth 100000 in
set_option maxHeartbeats 1600000 in
theorem rstmt_while {f : Nat} (ihX : RCall f .expr 113) (bdX : RFlat 113) (ihB : RCall f .block 70) (bdB : RFlat 70) {E : Env} {s : PS} {w : World} (h : RGood w E s) (hout : run E.L E.e (f + 1) .stmt s ≠ .out) (b0 : seesP E.L ⟨#[118,97,114]⟩ s = false) (b1 : seesP E.L ⟨#[105,102]⟩ s = false) (b2 : seesP E.L ⟨#[119,104,105,108,101]⟩ s = true) : Calls Tryz.prog 98 #[.pointer (some ⟨E.Q,0,none⟩)] w (REnd E (run E.L E.e (f + 1) .stmt s) w):=by
 have hE : RAt w E (.ok nd0 s):=h
 have HO:=Lib.hid hout
 generalize hrr : run E.L E.e (f + 1) .stmt s = rr at *
 have hr:=hrr.symm
 simp only [run,nodeP,tx_nil,tx_semi,tx_lp,tx_rp,tx_com,tx_var,tx_eq,tx_if,tx_else,tx_while,tx_return,tx_print,tx_fork,tx_wait,tx_signal,tx_swap,b0,b1,b2,if_true,if_false,Bool.false_eq_true] at hr
 have HR:=Lib.hid hr
 clear hrr hr hout
 have HE:=Lib.hid hE.env
 have HQ:=Lib.hid hE.old
 have NE : Hid (¬ w.heap.size = E.Q):=by have:=hE.old;show ¬ _;omega
 have NS : Hid (∀ b,(fun b => w.heap.size < b) b → ¬ b = E.Q):=fun b hb e => by have h1:=hE.old;have h2 : w.heap.size < b:=hb;omega
 obtain ⟨o9,ho9⟩:=oZ
 have hb0:=bl w o9
 have HS:=Lib.hid (h.below hb0)
 have HT:=Lib.hid (Turned.of_below (fun b => b = E.Q) hb0)
 have HX:=zB w
 have HZ:=zN w o9
 subst ho9
 clear h hE hb0
 go_enter Tryz.func98,Tryz.ntmps98
 have B0:=Lib.hid b0
 have B1:=Lib.hid b1
 have B2:=Lib.hid b2
 clear b0 b1 b2
 go_wp2_with fail
 generalize (w.alloc (.cells #[.int .i64 0,.string ⟨#[]⟩,.int .i64 0,.slice none 0 0] 24)) = w1 at *
 refine (rbegins_n HS.out B0.out).mono ?_
 rintro e w2 ⟨rfl,ht9,hs9⟩
 replace HX:=bT HX ht9 NE
 replace HZ:=zT HZ ht9
 replace HT:=tT HT ht9
 replace HS:=Lib.hid hs9
 clear ht9 hs9
 go_wp2_with fail
 refine (rbegins_n HS.out B1.out).mono ?_
 rintro e w3 ⟨rfl,ht9,hs9⟩
 replace HX:=bT HX ht9 NE
 replace HZ:=zT HZ ht9
 replace HT:=tT HT ht9
 replace HS:=Lib.hid hs9
 clear ht9 hs9
 go_wp2_with fail
 refine (rbegins_y HS.out B2.out).mono ?_
 rintro e w4 ⟨rfl,ht9,hs9⟩
 replace HX:=bT HX ht9 NE
 replace HZ:=zT HZ ht9
 replace HT:=tT HT ht9
 replace HS:=Lib.hid hs9
 clear ht9 hs9
 go_wp2_with fail
 refine (rwant_two HS.out _).mono ?_
 rintro e w5 ⟨rfl,ht9,(⟨m9,s6,hr9,hs9⟩ | ⟨c9,p9,hr9,hs9⟩)⟩
 ·replace HR:=Lib.hid (HR.out.trans (bind_ok hr9))
  clear hr9
  replace HX:=bT HX ht9 NE
  replace HZ:=zT HZ ht9
  replace HT:=tT HT ht9
  replace HS:=Lib.hid hs9
  clear ht9 hs9
  go_wp2_with fail
  refine ((ihX E) _ _ HS.out (fun h => HO.out (HR.out.trans (bind_out h)))).mono ?_
  rintro e w7 hq9
  rcases hq9.two (fun h => HO.out (HR.out.trans (bind_out h))) with ⟨n_k,s8,x_k,hr9,rfl,ht9,hs9,hi9⟩ | ⟨c9,p9,x_k,hr9,rfl,ht9,hs9⟩
  ·replace HR:=Lib.hid (HR.out.trans (bind_ok hr9))
   clear hr9 hq9
   have T_k:=Lib.hid (hi9.weak (S':=(fun b => w.heap.size < b)) (fun b hb h => Nat.lt_of_lt_of_le HZ.out h))
   clear hi9
   replace HX:=bT HX ht9 NE
   replace HZ:=zT HZ ht9
   replace HT:=tT HT ht9
   replace HS:=Lib.hid hs9
   clear ht9 hs9
   have NE_k:=nE HQ HZ
   have HB_k:=nB w7 x_k
   obtain ⟨o9,ho9⟩:=oN x_k
   replace HX:=bA HX o9
   replace T_k:=nA T_k o9
   replace HS:=Lib.hid (HS.out.below (bl _ o9))
   replace HT:=tA HT o9
   replace HZ:=zA HZ o9
   subst ho9
   go_wp2_with fail
   (try rw [← (show (World.alloc w7 (.cells #[.int .i64 x_k.kind,.string x_k.text,.int .i64 x_k.num,.slice x_k.a x_k.len x_k.cap] 24)).heap.size = _ from World.size_alloc _ _)])
   generalize (World.alloc w7 (.cells #[.int .i64 x_k.kind,.string x_k.text,.int .i64 x_k.num,.slice x_k.a x_k.len x_k.cap] 24)) = w9 at *
   refine (rwant_two HS.out _).mono ?_
   rintro e w10 ⟨rfl,ht9,(⟨m9,s11,hr9,hs9⟩ | ⟨c9,p9,hr9,hs9⟩)⟩
   ·replace HR:=Lib.hid (HR.out.trans (bind_ok hr9))
    clear hr9
    replace HX:=bT HX ht9 NE
    replace HB_k:=bT HB_k ht9 NE_k
    replace T_k:=nT T_k ht9 NS
    replace HZ:=zT HZ ht9
    replace HT:=tT HT ht9
    replace HS:=Lib.hid hs9
    clear ht9 hs9
    go_wp2_with fail
    refine ((ihB E) _ _ HS.out (fun h => HO.out (HR.out.trans (bind_out h)))).mono ?_
    rintro e w12 hq9
    rcases hq9.two (fun h => HO.out (HR.out.trans (bind_out h))) with ⟨n_b,s13,x_b,hr9,rfl,ht9,hs9,hi9⟩ | ⟨c9,p9,x_b,hr9,rfl,ht9,hs9⟩
    ·replace HR:=Lib.hid (HR.out.trans (bind_ok hr9))
     clear hr9 hq9
     have T_b:=Lib.hid (hi9.weak (S':=(fun b => w.heap.size < b)) (fun b hb h => Nat.lt_of_lt_of_le HZ.out h))
     clear hi9
     replace HX:=bT HX ht9 NE
     replace HB_k:=bT HB_k ht9 NE_k
     replace T_k:=nT T_k ht9 NS
     replace HZ:=zT HZ ht9
     replace HT:=tT HT ht9
     replace HS:=Lib.hid hs9
     clear ht9 hs9
     obtain ⟨u0k,u1k,u2k,u3k,g0k,g1k,g2k,g3k,glk⟩:=HB_k.out.f4
     have NE_b:=nE HQ HZ
     have HB_b:=nB w12 x_b
     obtain ⟨o9,ho9⟩:=oN x_b
     replace HX:=bA HX o9
     replace HB_k:=bA HB_k o9
     replace T_k:=nA T_k o9
     replace T_b:=nA T_b o9
     replace HS:=Lib.hid (HS.out.below (bl _ o9))
     replace HT:=tA HT o9
     replace HZ:=zA HZ o9
     subst ho9
     go_wp2_with fail
     clear u0k u1k u2k u3k g0k g1k g2k g3k glk
     (try rw [← (show (World.alloc w12 (.cells #[.int .i64 x_b.kind,.string x_b.text,.int .i64 x_b.num,.slice x_b.a x_b.len x_b.cap] 24)).heap.size = _ from World.size_alloc _ _)])
     generalize (World.alloc w12 (.cells #[.int .i64 x_b.kind,.string x_b.text,.int .i64 x_b.num,.slice x_b.a x_b.len x_b.cap] 24)) = w14 at *
     have HZ0:=HZ
     obtain ⟨o9,ho9⟩:=oNN x_k x_b
     replace HX:=bA HX o9
     replace HB_k:=bA HB_k o9
     replace HB_b:=bA HB_b o9
     replace T_k:=nA T_k o9
     replace T_b:=nA T_b o9
     replace HS:=Lib.hid (HS.out.below (bl _ o9))
     replace HT:=tA HT o9
     replace HZ:=zA HZ o9
     subst ho9
     obtain ⟨A9,c9,e9,-,hn9⟩:=(OwnN.new w14 0 [x_k,x_b] (by simp) (by simp) (Nat.zero_le _) #[.int .i64 x_k.kind,.string x_k.text,.int .i64 x_k.num,.slice x_k.a x_k.len x_k.cap,.int .i64 x_b.kind,.string x_b.text,.int .i64 x_b.num,.slice x_b.a x_b.len x_b.cap] rfl).nodes (S':=(fun b => w.heap.size < b)) (AllN.two T_k.out T_b.out) (fun b h => h) (fun k hk => by cases hk;exact (show w.heap.size < (World.heap w14).size from HZ0.out))
     cases e9
     have KN:=Lib.hid hn9
     clear hn9
     refine (rnode_any (r:=.ok nd0 _) 10 _ _ _ _ HS.out).mono ?_
     rintro e w15 ⟨rfl,ht9,hs9⟩
     have hs9 : RGood _ _ _:=hs9 nd0
     replace KN:=Lib.hid (KN.out.kept ht9.size (fun b hb hs => ht9.block b hb (NS.out b hs)) (fun b _ h => h))
     replace HX:=bT HX ht9 NE
     replace HB_k:=bT HB_k ht9 NE_k
     replace HB_b:=bT HB_b ht9 NE_b
     replace T_k:=nT T_k ht9 NS
     replace T_b:=nT T_b ht9 NS
     replace HZ:=zT HZ ht9
     replace HT:=tT HT ht9
     replace HS:=Lib.hid hs9
     clear ht9 hs9
     obtain ⟨u0X,u1X,u2X,u3X,g0X,g1X,g2X,g3X,glX⟩:=HX.out.f4
     go_wp2_with fail
     clear u0X u1X u2X u3X g0X g1X g2X g3X glX
     refine open_post (EndG w E _ ⟨10,⟨#[]⟩,0,(some ⟨(World.heap w14).size,0,none⟩),2,2⟩ (.mk 10 ⟨#[]⟩ 0 [n_k,n_b])) (end_good HE.out HQ.out HT.out HS.out HX.out (x:=⟨10,⟨#[]⟩,0,(some ⟨(World.heap w14).size,0,none⟩),2,2⟩) (n:=(.mk 10 ⟨#[]⟩ 0 [n_k,n_b])) ⟨⟨rfl,rfl,rfl,rfl⟩,KN.out⟩ (S:=(fun b => w.heap.size < b)) (fun b h => h)) ?_
     rintro W hE
     obtain ⟨v0,v1,v2,v3,-⟩:=hE.blk.f4
     exact bodyPost_ret (v:=nvA ⟨10,⟨#[]⟩,0,(some ⟨(World.heap w14).size,0,none⟩),2,2⟩) (by simp [results,Tryz.results98,go_sem,v0,v1,v2,v3]) rfl (hE.done HR.out)
    ·replace HR:=Lib.hid (HR.out.trans (bind_no hr9))
     clear hr9 hq9
     replace HX:=bT HX ht9 NE
     replace HB_k:=bT HB_k ht9 NE_k
     replace HZ:=zT HZ ht9
     replace HT:=tT HT ht9
     replace HS:=Lib.hid hs9
     clear ht9 hs9
     obtain ⟨u0k,u1k,u2k,u3k,g0k,g1k,g2k,g3k,glk⟩:=HB_k.out.f4
     have NE_b:=nE HQ HZ
     have HB_b:=nB w12 x_b
     obtain ⟨o9,ho9⟩:=oN x_b
     replace HX:=bA HX o9
     replace HB_k:=bA HB_k o9
     replace HS:=Lib.hid (HS.out.below (bl _ o9))
     replace HT:=tA HT o9
     replace HZ:=zA HZ o9
     subst ho9
     go_wp2_with fail
     clear u0k u1k u2k u3k g0k g1k g2k g3k glk
     (try rw [← (show (World.alloc w12 (.cells #[.int .i64 x_b.kind,.string x_b.text,.int .i64 x_b.num,.slice x_b.a x_b.len x_b.cap] 24)).heap.size = _ from World.size_alloc _ _)])
     generalize (World.alloc w12 (.cells #[.int .i64 x_b.kind,.string x_b.text,.int .i64 x_b.num,.slice x_b.a x_b.len x_b.cap] 24)) = w16 at *
     have HZ0:=HZ
     obtain ⟨o9,ho9⟩:=oNN x_k x_b
     replace HX:=bA HX o9
     replace HB_k:=bA HB_k o9
     replace HB_b:=bA HB_b o9
     replace HS:=Lib.hid (HS.out.below (bl _ o9))
     replace HT:=tA HT o9
     replace HZ:=zA HZ o9
     subst ho9
     refine (rnode_bad HS.out 10 _ _ _ _).mono ?_
     rintro e w17 ⟨rfl,ht9,hs9⟩
     replace HX:=bT HX ht9 NE
     replace HB_k:=bT HB_k ht9 NE_k
     replace HB_b:=bT HB_b ht9 NE_b
     replace HZ:=zT HZ ht9
     replace HT:=tT HT ht9
     replace HS:=Lib.hid hs9
     clear ht9 hs9
     obtain ⟨u0X,u1X,u2X,u3X,g0X,g1X,g2X,g3X,glX⟩:=HX.out.f4
     go_wp2_with fail
     clear u0X u1X u2X u3X g0X g1X g2X g3X glX
     refine open_post (EndB w E _ _ _) (end_bad HE.out HQ.out HT.out HS.out HX.out (x:=⟨_,_,_,_,_,_⟩)) ?_
     rintro W hE
     obtain ⟨v0,v1,v2,v3,-⟩:=hE.blk.f4
     exact bodyPost_ret (v:=nvA ⟨_,_,_,_,_,_⟩) (by simp [results,Tryz.results98,go_sem,v0,v1,v2,v3]) rfl (hE.done HR.out)
   ·replace HR:=Lib.hid (HR.out.trans (bind_no hr9))
    clear hr9
    replace HX:=bT HX ht9 NE
    replace HB_k:=bT HB_k ht9 NE_k
    replace HZ:=zT HZ ht9
    replace HT:=tT HT ht9
    replace HS:=Lib.hid hs9
    clear ht9 hs9
    go_wp2_with fail
    refine ((bdB E _ _ _) HS.out).mono ?_
    rintro e w18 ⟨x_b,rfl,ht9,hs9,-⟩
    have hs9 : RBad _ _ _ _:=hs9
    replace HX:=bT HX ht9 NE
    replace HB_k:=bT HB_k ht9 NE_k
    replace HZ:=zT HZ ht9
    replace HT:=tT HT ht9
    replace HS:=Lib.hid hs9
    clear ht9 hs9
    obtain ⟨u0k,u1k,u2k,u3k,g0k,g1k,g2k,g3k,glk⟩:=HB_k.out.f4
    have NE_b:=nE HQ HZ
    have HB_b:=nB w18 x_b
    obtain ⟨o9,ho9⟩:=oN x_b
    replace HX:=bA HX o9
    replace HB_k:=bA HB_k o9
    replace HS:=Lib.hid (HS.out.below (bl _ o9))
    replace HT:=tA HT o9
    replace HZ:=zA HZ o9
    subst ho9
    go_wp2_with fail
    clear u0k u1k u2k u3k g0k g1k g2k g3k glk
    (try rw [← (show (World.alloc w18 (.cells #[.int .i64 x_b.kind,.string x_b.text,.int .i64 x_b.num,.slice x_b.a x_b.len x_b.cap] 24)).heap.size = _ from World.size_alloc _ _)])
    generalize (World.alloc w18 (.cells #[.int .i64 x_b.kind,.string x_b.text,.int .i64 x_b.num,.slice x_b.a x_b.len x_b.cap] 24)) = w20 at *
    have HZ0:=HZ
    obtain ⟨o9,ho9⟩:=oNN x_k x_b
    replace HX:=bA HX o9
    replace HB_k:=bA HB_k o9
    replace HB_b:=bA HB_b o9
    replace HS:=Lib.hid (HS.out.below (bl _ o9))
    replace HT:=tA HT o9
    replace HZ:=zA HZ o9
    subst ho9
    refine (rnode_bad HS.out 10 _ _ _ _).mono ?_
    rintro e w21 ⟨rfl,ht9,hs9⟩
    replace HX:=bT HX ht9 NE
    replace HB_k:=bT HB_k ht9 NE_k
    replace HB_b:=bT HB_b ht9 NE_b
    replace HZ:=zT HZ ht9
    replace HT:=tT HT ht9
    replace HS:=Lib.hid hs9
    clear ht9 hs9
    obtain ⟨u0X,u1X,u2X,u3X,g0X,g1X,g2X,g3X,glX⟩:=HX.out.f4
    go_wp2_with fail
    clear u0X u1X u2X u3X g0X g1X g2X g3X glX
    refine open_post (EndB w E _ _ _) (end_bad HE.out HQ.out HT.out HS.out HX.out (x:=⟨_,_,_,_,_,_⟩)) ?_
    rintro W hE
    obtain ⟨v0,v1,v2,v3,-⟩:=hE.blk.f4
    exact bodyPost_ret (v:=nvA ⟨_,_,_,_,_,_⟩) (by simp [results,Tryz.results98,go_sem,v0,v1,v2,v3]) rfl (hE.done HR.out)
  ·replace HR:=Lib.hid (HR.out.trans (bind_no hr9))
   clear hr9 hq9
   replace HX:=bT HX ht9 NE
   replace HZ:=zT HZ ht9
   replace HT:=tT HT ht9
   replace HS:=Lib.hid hs9
   clear ht9 hs9
   have NE_k:=nE HQ HZ
   have HB_k:=nB w7 x_k
   obtain ⟨o9,ho9⟩:=oN x_k
   replace HX:=bA HX o9
   replace HS:=Lib.hid (HS.out.below (bl _ o9))
   replace HT:=tA HT o9
   replace HZ:=zA HZ o9
   subst ho9
   go_wp2_with fail
   (try rw [← (show (World.alloc w7 (.cells #[.int .i64 x_k.kind,.string x_k.text,.int .i64 x_k.num,.slice x_k.a x_k.len x_k.cap] 24)).heap.size = _ from World.size_alloc _ _)])
   generalize (World.alloc w7 (.cells #[.int .i64 x_k.kind,.string x_k.text,.int .i64 x_k.num,.slice x_k.a x_k.len x_k.cap] 24)) = w22 at *
   refine (rwant_bad HS.out _).mono ?_
   rintro e w23 ⟨rfl,ht9,hs9⟩
   replace HX:=bT HX ht9 NE
   replace HB_k:=bT HB_k ht9 NE_k
   replace HZ:=zT HZ ht9
   replace HT:=tT HT ht9
   replace HS:=Lib.hid hs9
   clear ht9 hs9
   go_wp2_with fail
   refine ((bdB E _ _ _) HS.out).mono ?_
   rintro e w24 ⟨x_b,rfl,ht9,hs9,-⟩
   have hs9 : RBad _ _ _ _:=hs9
   replace HX:=bT HX ht9 NE
   replace HB_k:=bT HB_k ht9 NE_k
   replace HZ:=zT HZ ht9
   replace HT:=tT HT ht9
   replace HS:=Lib.hid hs9
   clear ht9 hs9
   obtain ⟨u0k,u1k,u2k,u3k,g0k,g1k,g2k,g3k,glk⟩:=HB_k.out.f4
   have NE_b:=nE HQ HZ
   have HB_b:=nB w24 x_b
   obtain ⟨o9,ho9⟩:=oN x_b
   replace HX:=bA HX o9
   replace HB_k:=bA HB_k o9
   replace HS:=Lib.hid (HS.out.below (bl _ o9))
   replace HT:=tA HT o9
   replace HZ:=zA HZ o9
   subst ho9
   go_wp2_with fail
   clear u0k u1k u2k u3k g0k g1k g2k g3k glk
   (try rw [← (show (World.alloc w24 (.cells #[.int .i64 x_b.kind,.string x_b.text,.int .i64 x_b.num,.slice x_b.a x_b.len x_b.cap] 24)).heap.size = _ from World.size_alloc _ _)])
   generalize (World.alloc w24 (.cells #[.int .i64 x_b.kind,.string x_b.text,.int .i64 x_b.num,.slice x_b.a x_b.len x_b.cap] 24)) = w26 at *
   have HZ0:=HZ
   obtain ⟨o9,ho9⟩:=oNN x_k x_b
   replace HX:=bA HX o9
   replace HB_k:=bA HB_k o9
   replace HB_b:=bA HB_b o9
   replace HS:=Lib.hid (HS.out.below (bl _ o9))
   replace HT:=tA HT o9
   replace HZ:=zA HZ o9
   subst ho9
   refine (rnode_bad HS.out 10 _ _ _ _).mono ?_
   rintro e w27 ⟨rfl,ht9,hs9⟩
   replace HX:=bT HX ht9 NE
   replace HB_k:=bT HB_k ht9 NE_k
   replace HB_b:=bT HB_b ht9 NE_b
   replace HZ:=zT HZ ht9
   replace HT:=tT HT ht9
   replace HS:=Lib.hid hs9
   clear ht9 hs9
   obtain ⟨u0X,u1X,u2X,u3X,g0X,g1X,g2X,g3X,glX⟩:=HX.out.f4
   go_wp2_with fail
   clear u0X u1X u2X u3X g0X g1X g2X g3X glX
   refine open_post (EndB w E _ _ _) (end_bad HE.out HQ.out HT.out HS.out HX.out (x:=⟨_,_,_,_,_,_⟩)) ?_
   rintro W hE
   obtain ⟨v0,v1,v2,v3,-⟩:=hE.blk.f4
   exact bodyPost_ret (v:=nvA ⟨_,_,_,_,_,_⟩) (by simp [results,Tryz.results98,go_sem,v0,v1,v2,v3]) rfl (hE.done HR.out)
 ·replace HR:=Lib.hid (HR.out.trans (bind_no hr9))
  clear hr9
  replace HX:=bT HX ht9 NE
  replace HZ:=zT HZ ht9
  replace HT:=tT HT ht9
  replace HS:=Lib.hid hs9
  clear ht9 hs9
  go_wp2_with fail
  refine ((bdX E _ _ _) HS.out).mono ?_
  rintro e w28 ⟨x_k,rfl,ht9,hs9,-⟩
  have hs9 : RBad _ _ _ _:=hs9
  replace HX:=bT HX ht9 NE
  replace HZ:=zT HZ ht9
  replace HT:=tT HT ht9
  replace HS:=Lib.hid hs9
  clear ht9 hs9
  have NE_k:=nE HQ HZ
  have HB_k:=nB w28 x_k
  obtain ⟨o9,ho9⟩:=oN x_k
  replace HX:=bA HX o9
  replace HS:=Lib.hid (HS.out.below (bl _ o9))
  replace HT:=tA HT o9
  replace HZ:=zA HZ o9
  subst ho9
  go_wp2_with fail
  (try rw [← (show (World.alloc w28 (.cells #[.int .i64 x_k.kind,.string x_k.text,.int .i64 x_k.num,.slice x_k.a x_k.len x_k.cap] 24)).heap.size = _ from World.size_alloc _ _)])
  generalize (World.alloc w28 (.cells #[.int .i64 x_k.kind,.string x_k.text,.int .i64 x_k.num,.slice x_k.a x_k.len x_k.cap] 24)) = w30 at *
  refine (rwant_bad HS.out _).mono ?_
  rintro e w31 ⟨rfl,ht9,hs9⟩
  replace HX:=bT HX ht9 NE
  replace HB_k:=bT HB_k ht9 NE_k
  replace HZ:=zT HZ ht9
  replace HT:=tT HT ht9
  replace HS:=Lib.hid hs9
  clear ht9 hs9
  go_wp2_with fail
  refine ((bdB E _ _ _) HS.out).mono ?_
  rintro e w32 ⟨x_b,rfl,ht9,hs9,-⟩
  have hs9 : RBad _ _ _ _:=hs9
  replace HX:=bT HX ht9 NE
  replace HB_k:=bT HB_k ht9 NE_k
  replace HZ:=zT HZ ht9
  replace HT:=tT HT ht9
  replace HS:=Lib.hid hs9
  clear ht9 hs9
  obtain ⟨u0k,u1k,u2k,u3k,g0k,g1k,g2k,g3k,glk⟩:=HB_k.out.f4
  have NE_b:=nE HQ HZ
  have HB_b:=nB w32 x_b
  obtain ⟨o9,ho9⟩:=oN x_b
  replace HX:=bA HX o9
  replace HB_k:=bA HB_k o9
  replace HS:=Lib.hid (HS.out.below (bl _ o9))
  replace HT:=tA HT o9
  replace HZ:=zA HZ o9
  subst ho9
  go_wp2_with fail
  clear u0k u1k u2k u3k g0k g1k g2k g3k glk
  (try rw [← (show (World.alloc w32 (.cells #[.int .i64 x_b.kind,.string x_b.text,.int .i64 x_b.num,.slice x_b.a x_b.len x_b.cap] 24)).heap.size = _ from World.size_alloc _ _)])
  generalize (World.alloc w32 (.cells #[.int .i64 x_b.kind,.string x_b.text,.int .i64 x_b.num,.slice x_b.a x_b.len x_b.cap] 24)) = w34 at *
  have HZ0:=HZ
  obtain ⟨o9,ho9⟩:=oNN x_k x_b
  replace HX:=bA HX o9
  replace HB_k:=bA HB_k o9
  replace HB_b:=bA HB_b o9
  replace HS:=Lib.hid (HS.out.below (bl _ o9))
  replace HT:=tA HT o9
  replace HZ:=zA HZ o9
  subst ho9
  refine (rnode_bad HS.out 10 _ _ _ _).mono ?_
  rintro e w35 ⟨rfl,ht9,hs9⟩
  replace HX:=bT HX ht9 NE
  replace HB_k:=bT HB_k ht9 NE_k
  replace HB_b:=bT HB_b ht9 NE_b
  replace HZ:=zT HZ ht9
  replace HT:=tT HT ht9
  replace HS:=Lib.hid hs9
  clear ht9 hs9
  obtain ⟨u0X,u1X,u2X,u3X,g0X,g1X,g2X,g3X,glX⟩:=HX.out.f4
  go_wp2_with fail
  clear u0X u1X u2X u3X g0X g1X g2X g3X glX
  refine open_post (EndB w E _ _ _) (end_bad HE.out HQ.out HT.out HS.out HX.out (x:=⟨_,_,_,_,_,_⟩)) ?_
  rintro W hE
  obtain ⟨v0,v1,v2,v3,-⟩:=hE.blk.f4
  exact bodyPost_ret (v:=nvA ⟨_,_,_,_,_,_⟩) (by simp [results,Tryz.results98,go_sem,v0,v1,v2,v3]) rfl (hE.done HR.out)
set_option maxRecDepth 100000 in
set_option maxHeartbeats 1600000 in
theorem rstmt_return {f : Nat} (ihX : RCall f .expr 113) (bdX : RFlat 113) (ihB : RCall f .block 70) (bdB : RFlat 70) {E : Env} {s : PS} {w : World} (h : RGood w E s) (hout : run E.L E.e (f + 1) .stmt s ≠ .out) (b0 : seesP E.L ⟨#[118,97,114]⟩ s = false) (b1 : seesP E.L ⟨#[105,102]⟩ s = false) (b2 : seesP E.L ⟨#[119,104,105,108,101]⟩ s = false) (b3 : seesP E.L ⟨#[114,101,116,117,114,110]⟩ s = true) : Calls Tryz.prog 98 #[.pointer (some ⟨E.Q,0,none⟩)] w (REnd E (run E.L E.e (f + 1) .stmt s) w):=by
 have hE : RAt w E (.ok nd0 s):=h
 have HO:=Lib.hid hout
 generalize hrr : run E.L E.e (f + 1) .stmt s = rr at *
 have hr:=hrr.symm
 simp only [run,nodeP,tx_nil,tx_semi,tx_lp,tx_rp,tx_com,tx_var,tx_eq,tx_if,tx_else,tx_while,tx_return,tx_print,tx_fork,tx_wait,tx_signal,tx_swap,b0,b1,b2,b3,if_true,if_false,Bool.false_eq_true] at hr
 have HR:=Lib.hid hr
 clear hrr hr hout
 have HE:=Lib.hid hE.env
 have HQ:=Lib.hid hE.old
 have NE : Hid (¬ w.heap.size = E.Q):=by have:=hE.old;show ¬ _;omega
 have NS : Hid (∀ b,(fun b => w.heap.size < b) b → ¬ b = E.Q):=fun b hb e => by have h1:=hE.old;have h2 : w.heap.size < b:=hb;omega
 obtain ⟨o9,ho9⟩:=oZ
 have hb0:=bl w o9
 have HS:=Lib.hid (h.below hb0)
 have HT:=Lib.hid (Turned.of_below (fun b => b = E.Q) hb0)
 have HX:=zB w
 have HZ:=zN w o9
 subst ho9
 clear h hE hb0
 go_enter Tryz.func98,Tryz.ntmps98
 have B0:=Lib.hid b0
 have B1:=Lib.hid b1
 have B2:=Lib.hid b2
 have B3:=Lib.hid b3
 clear b0 b1 b2 b3
 go_wp2_with fail
 generalize (w.alloc (.cells #[.int .i64 0,.string ⟨#[]⟩,.int .i64 0,.slice none 0 0] 24)) = w1 at *
 refine (rbegins_n HS.out B0.out).mono ?_
 rintro e w2 ⟨rfl,ht9,hs9⟩
 replace HX:=bT HX ht9 NE
 replace HZ:=zT HZ ht9
 replace HT:=tT HT ht9
 replace HS:=Lib.hid hs9
 clear ht9 hs9
 go_wp2_with fail
 refine (rbegins_n HS.out B1.out).mono ?_
 rintro e w3 ⟨rfl,ht9,hs9⟩
 replace HX:=bT HX ht9 NE
 replace HZ:=zT HZ ht9
 replace HT:=tT HT ht9
 replace HS:=Lib.hid hs9
 clear ht9 hs9
 go_wp2_with fail
 refine (rbegins_n HS.out B2.out).mono ?_
 rintro e w4 ⟨rfl,ht9,hs9⟩
 replace HX:=bT HX ht9 NE
 replace HZ:=zT HZ ht9
 replace HT:=tT HT ht9
 replace HS:=Lib.hid hs9
 clear ht9 hs9
 go_wp2_with fail
 refine (rbegins_y HS.out B3.out).mono ?_
 rintro e w5 ⟨rfl,ht9,hs9⟩
 replace HX:=bT HX ht9 NE
 replace HZ:=zT HZ ht9
 replace HT:=tT HT ht9
 replace HS:=Lib.hid hs9
 clear ht9 hs9
 go_wp2_with fail
 refine ((ihX E) _ _ HS.out (fun h => HO.out (HR.out.trans (bind_out h)))).mono ?_
 rintro e w6 hq9
 rcases hq9.two (fun h => HO.out (HR.out.trans (bind_out h))) with ⟨n_k,s7,x_k,hr9,rfl,ht9,hs9,hi9⟩ | ⟨c9,p9,x_k,hr9,rfl,ht9,hs9⟩
 ·replace HR:=Lib.hid (HR.out.trans (bind_ok hr9))
  clear hr9 hq9
  have T_k:=Lib.hid (hi9.weak (S':=(fun b => w.heap.size < b)) (fun b hb h => Nat.lt_of_lt_of_le HZ.out h))
  clear hi9
  replace HX:=bT HX ht9 NE
  replace HZ:=zT HZ ht9
  replace HT:=tT HT ht9
  replace HS:=Lib.hid hs9
  clear ht9 hs9
  have NE_k:=nE HQ HZ
  have HB_k:=nB w6 x_k
  obtain ⟨o9,ho9⟩:=oN x_k
  replace HX:=bA HX o9
  replace T_k:=nA T_k o9
  replace HS:=Lib.hid (HS.out.below (bl _ o9))
  replace HT:=tA HT o9
  replace HZ:=zA HZ o9
  subst ho9
  go_wp2_with fail
  (try rw [← (show (World.alloc w6 (.cells #[.int .i64 x_k.kind,.string x_k.text,.int .i64 x_k.num,.slice x_k.a x_k.len x_k.cap] 24)).heap.size = _ from World.size_alloc _ _)])
  generalize (World.alloc w6 (.cells #[.int .i64 x_k.kind,.string x_k.text,.int .i64 x_k.num,.slice x_k.a x_k.len x_k.cap] 24)) = w8 at *
  refine (rwant_two HS.out _).mono ?_
  rintro e w9 ⟨rfl,ht9,(⟨m9,s10,hr9,hs9⟩ | ⟨c9,p9,hr9,hs9⟩)⟩
  ·replace HR:=Lib.hid (HR.out.trans (bind_ok hr9))
   clear hr9
   replace HX:=bT HX ht9 NE
   replace HB_k:=bT HB_k ht9 NE_k
   replace T_k:=nT T_k ht9 NS
   replace HZ:=zT HZ ht9
   replace HT:=tT HT ht9
   replace HS:=Lib.hid hs9
   clear ht9 hs9
   obtain ⟨u0k,u1k,u2k,u3k,g0k,g1k,g2k,g3k,glk⟩:=HB_k.out.f4
   go_wp2_with fail
   clear u0k u1k u2k u3k g0k g1k g2k g3k glk
   have HZ0:=HZ
   obtain ⟨o9,ho9⟩:=oN x_k
   replace HX:=bA HX o9
   replace HB_k:=bA HB_k o9
   replace T_k:=nA T_k o9
   replace HS:=Lib.hid (HS.out.below (bl _ o9))
   replace HT:=tA HT o9
   replace HZ:=zA HZ o9
   subst ho9
   obtain ⟨A9,c9,e9,-,hn9⟩:=(OwnN.new w9 0 [x_k] (by simp) (by simp) (Nat.zero_le _) #[.int .i64 x_k.kind,.string x_k.text,.int .i64 x_k.num,.slice x_k.a x_k.len x_k.cap] rfl).nodes (S':=(fun b => w.heap.size < b)) (AllN.one T_k.out) (fun b h => h) (fun k hk => by cases hk;exact (show w.heap.size < (World.heap w9).size from HZ0.out))
   cases e9
   have KN:=Lib.hid hn9
   clear hn9
   refine (rnode_any (r:=.ok nd0 _) 11 _ _ _ _ HS.out).mono ?_
   rintro e w11 ⟨rfl,ht9,hs9⟩
   have hs9 : RGood _ _ _:=hs9 nd0
   replace KN:=Lib.hid (KN.out.kept ht9.size (fun b hb hs => ht9.block b hb (NS.out b hs)) (fun b _ h => h))
   replace HX:=bT HX ht9 NE
   replace HB_k:=bT HB_k ht9 NE_k
   replace T_k:=nT T_k ht9 NS
   replace HZ:=zT HZ ht9
   replace HT:=tT HT ht9
   replace HS:=Lib.hid hs9
   clear ht9 hs9
   obtain ⟨u0X,u1X,u2X,u3X,g0X,g1X,g2X,g3X,glX⟩:=HX.out.f4
   go_wp2_with fail
   clear u0X u1X u2X u3X g0X g1X g2X g3X glX
   refine open_post (EndG w E _ ⟨11,⟨#[]⟩,0,(some ⟨(World.heap w9).size,0,none⟩),1,1⟩ (.mk 11 ⟨#[]⟩ 0 [n_k])) (end_good HE.out HQ.out HT.out HS.out HX.out (x:=⟨11,⟨#[]⟩,0,(some ⟨(World.heap w9).size,0,none⟩),1,1⟩) (n:=(.mk 11 ⟨#[]⟩ 0 [n_k])) ⟨⟨rfl,rfl,rfl,rfl⟩,KN.out⟩ (S:=(fun b => w.heap.size < b)) (fun b h => h)) ?_
   rintro W hE
   obtain ⟨v0,v1,v2,v3,-⟩:=hE.blk.f4
   exact bodyPost_ret (v:=nvA ⟨11,⟨#[]⟩,0,(some ⟨(World.heap w9).size,0,none⟩),1,1⟩) (by simp [results,Tryz.results98,go_sem,v0,v1,v2,v3]) rfl (hE.done HR.out)
  ·replace HR:=Lib.hid (HR.out.trans (bind_no hr9))
   clear hr9
   replace HX:=bT HX ht9 NE
   replace HB_k:=bT HB_k ht9 NE_k
   replace HZ:=zT HZ ht9
   replace HT:=tT HT ht9
   replace HS:=Lib.hid hs9
   clear ht9 hs9
   obtain ⟨u0k,u1k,u2k,u3k,g0k,g1k,g2k,g3k,glk⟩:=HB_k.out.f4
   go_wp2_with fail
   clear u0k u1k u2k u3k g0k g1k g2k g3k glk
   have HZ0:=HZ
   obtain ⟨o9,ho9⟩:=oN x_k
   replace HX:=bA HX o9
   replace HB_k:=bA HB_k o9
   replace HS:=Lib.hid (HS.out.below (bl _ o9))
   replace HT:=tA HT o9
   replace HZ:=zA HZ o9
   subst ho9
   refine (rnode_bad HS.out 11 _ _ _ _).mono ?_
   rintro e w12 ⟨rfl,ht9,hs9⟩
   replace HX:=bT HX ht9 NE
   replace HB_k:=bT HB_k ht9 NE_k
   replace HZ:=zT HZ ht9
   replace HT:=tT HT ht9
   replace HS:=Lib.hid hs9
   clear ht9 hs9
   obtain ⟨u0X,u1X,u2X,u3X,g0X,g1X,g2X,g3X,glX⟩:=HX.out.f4
   go_wp2_with fail
   clear u0X u1X u2X u3X g0X g1X g2X g3X glX
   refine open_post (EndB w E _ _ _) (end_bad HE.out HQ.out HT.out HS.out HX.out (x:=⟨_,_,_,_,_,_⟩)) ?_
   rintro W hE
   obtain ⟨v0,v1,v2,v3,-⟩:=hE.blk.f4
   exact bodyPost_ret (v:=nvA ⟨_,_,_,_,_,_⟩) (by simp [results,Tryz.results98,go_sem,v0,v1,v2,v3]) rfl (hE.done HR.out)
 ·replace HR:=Lib.hid (HR.out.trans (bind_no hr9))
  clear hr9 hq9
  replace HX:=bT HX ht9 NE
  replace HZ:=zT HZ ht9
  replace HT:=tT HT ht9
  replace HS:=Lib.hid hs9
  clear ht9 hs9
  have NE_k:=nE HQ HZ
  have HB_k:=nB w6 x_k
  obtain ⟨o9,ho9⟩:=oN x_k
  replace HX:=bA HX o9
  replace HS:=Lib.hid (HS.out.below (bl _ o9))
  replace HT:=tA HT o9
  replace HZ:=zA HZ o9
  subst ho9
  go_wp2_with fail
  (try rw [← (show (World.alloc w6 (.cells #[.int .i64 x_k.kind,.string x_k.text,.int .i64 x_k.num,.slice x_k.a x_k.len x_k.cap] 24)).heap.size = _ from World.size_alloc _ _)])
  generalize (World.alloc w6 (.cells #[.int .i64 x_k.kind,.string x_k.text,.int .i64 x_k.num,.slice x_k.a x_k.len x_k.cap] 24)) = w13 at *
  refine (rwant_bad HS.out _).mono ?_
  rintro e w14 ⟨rfl,ht9,hs9⟩
  replace HX:=bT HX ht9 NE
  replace HB_k:=bT HB_k ht9 NE_k
  replace HZ:=zT HZ ht9
  replace HT:=tT HT ht9
  replace HS:=Lib.hid hs9
  clear ht9 hs9
  obtain ⟨u0k,u1k,u2k,u3k,g0k,g1k,g2k,g3k,glk⟩:=HB_k.out.f4
  go_wp2_with fail
  clear u0k u1k u2k u3k g0k g1k g2k g3k glk
  have HZ0:=HZ
  obtain ⟨o9,ho9⟩:=oN x_k
  replace HX:=bA HX o9
  replace HB_k:=bA HB_k o9
  replace HS:=Lib.hid (HS.out.below (bl _ o9))
  replace HT:=tA HT o9
  replace HZ:=zA HZ o9
  subst ho9
  refine (rnode_bad HS.out 11 _ _ _ _).mono ?_
  rintro e w15 ⟨rfl,ht9,hs9⟩
  replace HX:=bT HX ht9 NE
  replace HB_k:=bT HB_k ht9 NE_k
  replace HZ:=zT HZ ht9
  replace HT:=tT HT ht9
  replace HS:=Lib.hid hs9
  clear ht9 hs9
  obtain ⟨u0X,u1X,u2X,u3X,g0X,g1X,g2X,g3X,glX⟩:=HX.out.f4
  go_wp2_with fail
  clear u0X u1X u2X u3X g0X g1X g2X g3X glX
  refine open_post (EndB w E _ _ _) (end_bad HE.out HQ.out HT.out HS.out HX.out (x:=⟨_,_,_,_,_,_⟩)) ?_
  rintro W hE
  obtain ⟨v0,v1,v2,v3,-⟩:=hE.blk.f4
  exact bodyPost_ret (v:=nvA ⟨_,_,_,_,_,_⟩) (by simp [results,Tryz.results98,go_sem,v0,v1,v2,v3]) rfl (hE.done HR.out)
set_option maxRecDepth 100000 in
set_option maxHeartbeats 1600000 in
theorem rstmt_print {f : Nat} (ihX : RCall f .expr 113) (bdX : RFlat 113) (ihB : RCall f .block 70) (bdB : RFlat 70) {E : Env} {s : PS} {w : World} (h : RGood w E s) (hout : run E.L E.e (f + 1) .stmt s ≠ .out) (b0 : seesP E.L ⟨#[118,97,114]⟩ s = false) (b1 : seesP E.L ⟨#[105,102]⟩ s = false) (b2 : seesP E.L ⟨#[119,104,105,108,101]⟩ s = false) (b3 : seesP E.L ⟨#[114,101,116,117,114,110]⟩ s = false) (b4 : seesP E.L ⟨#[112,114,105,110,116]⟩ s = true) : Calls Tryz.prog 98 #[.pointer (some ⟨E.Q,0,none⟩)] w (REnd E (run E.L E.e (f + 1) .stmt s) w):=by
 have hE : RAt w E (.ok nd0 s):=h
 have HO:=Lib.hid hout
 generalize hrr : run E.L E.e (f + 1) .stmt s = rr at *
 have hr : rr = someP E.L E.e f 12 1 (stepP s):=by
  rw [← hrr]
  simp only [run,tx_var,tx_if,tx_while,tx_return,tx_print,b0,b1,b2,b3,b4,if_true,if_false,Bool.false_eq_true]
  simp only [someP,someL,nodeP,tx_lp,tx_rp,tx_semi,tx_nil,ok_bind,if_true,List.nil_append,]
 have HR:=Lib.hid hr
 clear hrr hr hout
 have HE:=Lib.hid hE.env
 have HQ:=Lib.hid hE.old
 have NE : Hid (¬ w.heap.size = E.Q):=by have:=hE.old;show ¬ _;omega
 have NS : Hid (∀ b,(fun b => w.heap.size < b) b → ¬ b = E.Q):=fun b hb e => by have h1:=hE.old;have h2 : w.heap.size < b:=hb;omega
 obtain ⟨o9,ho9⟩:=oZ
 have hb0:=bl w o9
 have HS:=Lib.hid (h.below hb0)
 have HT:=Lib.hid (Turned.of_below (fun b => b = E.Q) hb0)
 have HX:=zB w
 have HZ:=zN w o9
 subst ho9
 clear h hE hb0
 go_enter Tryz.func98,Tryz.ntmps98
 have B0:=Lib.hid b0
 have B1:=Lib.hid b1
 have B2:=Lib.hid b2
 have B3:=Lib.hid b3
 have B4:=Lib.hid b4
 clear b0 b1 b2 b3 b4
 go_wp2_with fail
 generalize (w.alloc (.cells #[.int .i64 0,.string ⟨#[]⟩,.int .i64 0,.slice none 0 0] 24)) = w1 at *
 refine (rbegins_n HS.out B0.out).mono ?_
 rintro e w2 ⟨rfl,ht9,hs9⟩
 replace HX:=bT HX ht9 NE
 replace HZ:=zT HZ ht9
 replace HT:=tT HT ht9
 replace HS:=Lib.hid hs9
 clear ht9 hs9
 go_wp2_with fail
 refine (rbegins_n HS.out B1.out).mono ?_
 rintro e w3 ⟨rfl,ht9,hs9⟩
 replace HX:=bT HX ht9 NE
 replace HZ:=zT HZ ht9
 replace HT:=tT HT ht9
 replace HS:=Lib.hid hs9
 clear ht9 hs9
 go_wp2_with fail
 refine (rbegins_n HS.out B2.out).mono ?_
 rintro e w4 ⟨rfl,ht9,hs9⟩
 replace HX:=bT HX ht9 NE
 replace HZ:=zT HZ ht9
 replace HT:=tT HT ht9
 replace HS:=Lib.hid hs9
 clear ht9 hs9
 go_wp2_with fail
 refine (rbegins_n HS.out B3.out).mono ?_
 rintro e w5 ⟨rfl,ht9,hs9⟩
 replace HX:=bT HX ht9 NE
 replace HZ:=zT HZ ht9
 replace HT:=tT HT ht9
 replace HS:=Lib.hid hs9
 clear ht9 hs9
 go_wp2_with fail
 refine (rbegins_y HS.out B4.out).mono ?_
 rintro e w6 ⟨rfl,ht9,hs9⟩
 replace HX:=bT HX ht9 NE
 replace HZ:=zT HZ ht9
 replace HT:=tT HT ht9
 replace HS:=Lib.hid hs9
 clear ht9 hs9
 replace HR:=Lib.hid (HR.out.trans (res_id _).symm)
 go_wp2_with fail
 refine ((fun s w h ho => rsome_any ihX bdX 12 1 (by decide) h ho) _ _ HS.out (fun h => HO.out (HR.out.trans (bind_out h)))).mono ?_
 rintro e w7 hq9
 rcases hq9.two (fun h => HO.out (HR.out.trans (bind_out h))) with ⟨n_k,s8,x_k,hr9,rfl,ht9,hs9,hi9⟩ | ⟨c9,p9,x_k,hr9,rfl,ht9,hs9⟩
 ·replace HR:=Lib.hid (HR.out.trans (bind_ok hr9))
  clear hr9 hq9
  have T_k:=Lib.hid (hi9.weak (S':=(fun b => w.heap.size < b)) (fun b hb h => Nat.lt_of_lt_of_le HZ.out h))
  clear hi9
  replace HX:=bT HX ht9 NE
  replace HZ:=zT HZ ht9
  replace HT:=tT HT ht9
  replace HS:=Lib.hid hs9
  clear ht9 hs9
  obtain ⟨u0X,u1X,u2X,u3X,g0X,g1X,g2X,g3X,glX⟩:=HX.out.f4
  go_wp2_with fail
  clear u0X u1X u2X u3X g0X g1X g2X g3X glX
  refine open_post (EndG w E _ x_k n_k) (end_good HE.out HQ.out HT.out HS.out HX.out (x:=x_k) (n:=n_k) T_k.out (S:=(fun b => w.heap.size < b)) (fun b h => h)) ?_
  rintro W hE
  obtain ⟨v0,v1,v2,v3,-⟩:=hE.blk.f4
  exact bodyPost_ret (v:=nvA x_k) (by simp [results,Tryz.results98,go_sem,v0,v1,v2,v3]) rfl (hE.done HR.out)
 ·replace HR:=Lib.hid (HR.out.trans (bind_no hr9))
  clear hr9 hq9
  replace HX:=bT HX ht9 NE
  replace HZ:=zT HZ ht9
  replace HT:=tT HT ht9
  replace HS:=Lib.hid hs9
  clear ht9 hs9
  obtain ⟨u0X,u1X,u2X,u3X,g0X,g1X,g2X,g3X,glX⟩:=HX.out.f4
  go_wp2_with fail
  clear u0X u1X u2X u3X g0X g1X g2X g3X glX
  refine open_post (EndB w E _ _ _) (end_bad HE.out HQ.out HT.out HS.out HX.out (x:=⟨_,_,_,_,_,_⟩)) ?_
  rintro W hE
  obtain ⟨v0,v1,v2,v3,-⟩:=hE.blk.f4
  exact bodyPost_ret (v:=nvA ⟨_,_,_,_,_,_⟩) (by simp [results,Tryz.results98,go_sem,v0,v1,v2,v3]) rfl (hE.done HR.out)
set_option maxRecDepth 100000 in
set_option maxHeartbeats 1600000 in
theorem rstmt_wait {f : Nat} (ihX : RCall f .expr 113) (bdX : RFlat 113) (ihB : RCall f .block 70) (bdB : RFlat 70) {E : Env} {s : PS} {w : World} (h : RGood w E s) (hout : run E.L E.e (f + 1) .stmt s ≠ .out) (b0 : seesP E.L ⟨#[118,97,114]⟩ s = false) (b1 : seesP E.L ⟨#[105,102]⟩ s = false) (b2 : seesP E.L ⟨#[119,104,105,108,101]⟩ s = false) (b3 : seesP E.L ⟨#[114,101,116,117,114,110]⟩ s = false) (b4 : seesP E.L ⟨#[112,114,105,110,116]⟩ s = false) (b5 : seesP E.L ⟨#[102,111,114,107]⟩ s = false) (b6 : seesP E.L ⟨#[119,97,105,116]⟩ s = true) : Calls Tryz.prog 98 #[.pointer (some ⟨E.Q,0,none⟩)] w (REnd E (run E.L E.e (f + 1) .stmt s) w):=by
 have hE : RAt w E (.ok nd0 s):=h
 have HO:=Lib.hid hout
 generalize hrr : run E.L E.e (f + 1) .stmt s = rr at *
 have hr : rr = someP E.L E.e f 14 1 (stepP s):=by
  rw [← hrr]
  simp only [run,tx_var,tx_if,tx_while,tx_return,tx_print,tx_fork,tx_wait,b0,b1,b2,b3,b4,b5,b6,if_true,if_false,Bool.false_eq_true]
  simp only [someP,someL,nodeP,tx_lp,tx_rp,tx_semi,tx_nil,ok_bind,if_true,List.nil_append,]
 have HR:=Lib.hid hr
 clear hrr hr hout
 have HE:=Lib.hid hE.env
 have HQ:=Lib.hid hE.old
 have NE : Hid (¬ w.heap.size = E.Q):=by have:=hE.old;show ¬ _;omega
 have NS : Hid (∀ b,(fun b => w.heap.size < b) b → ¬ b = E.Q):=fun b hb e => by have h1:=hE.old;have h2 : w.heap.size < b:=hb;omega
 obtain ⟨o9,ho9⟩:=oZ
 have hb0:=bl w o9
 have HS:=Lib.hid (h.below hb0)
 have HT:=Lib.hid (Turned.of_below (fun b => b = E.Q) hb0)
 have HX:=zB w
 have HZ:=zN w o9
 subst ho9
 clear h hE hb0
 go_enter Tryz.func98,Tryz.ntmps98
 have B0:=Lib.hid b0
 have B1:=Lib.hid b1
 have B2:=Lib.hid b2
 have B3:=Lib.hid b3
 have B4:=Lib.hid b4
 have B5:=Lib.hid b5
 have B6:=Lib.hid b6
 clear b0 b1 b2 b3 b4 b5 b6
 go_wp2_with fail
 generalize (w.alloc (.cells #[.int .i64 0,.string ⟨#[]⟩,.int .i64 0,.slice none 0 0] 24)) = w1 at *
 refine (rbegins_n HS.out B0.out).mono ?_
 rintro e w2 ⟨rfl,ht9,hs9⟩
 replace HX:=bT HX ht9 NE
 replace HZ:=zT HZ ht9
 replace HT:=tT HT ht9
 replace HS:=Lib.hid hs9
 clear ht9 hs9
 go_wp2_with fail
 refine (rbegins_n HS.out B1.out).mono ?_
 rintro e w3 ⟨rfl,ht9,hs9⟩
 replace HX:=bT HX ht9 NE
 replace HZ:=zT HZ ht9
 replace HT:=tT HT ht9
 replace HS:=Lib.hid hs9
 clear ht9 hs9
 go_wp2_with fail
 refine (rbegins_n HS.out B2.out).mono ?_
 rintro e w4 ⟨rfl,ht9,hs9⟩
 replace HX:=bT HX ht9 NE
 replace HZ:=zT HZ ht9
 replace HT:=tT HT ht9
 replace HS:=Lib.hid hs9
 clear ht9 hs9
 go_wp2_with fail
 refine (rbegins_n HS.out B3.out).mono ?_
 rintro e w5 ⟨rfl,ht9,hs9⟩
 replace HX:=bT HX ht9 NE
 replace HZ:=zT HZ ht9
 replace HT:=tT HT ht9
 replace HS:=Lib.hid hs9
 clear ht9 hs9
 go_wp2_with fail
 refine (rbegins_n HS.out B4.out).mono ?_
 rintro e w6 ⟨rfl,ht9,hs9⟩
 replace HX:=bT HX ht9 NE
 replace HZ:=zT HZ ht9
 replace HT:=tT HT ht9
 replace HS:=Lib.hid hs9
 clear ht9 hs9
 go_wp2_with fail
 refine (rbegins_n HS.out B5.out).mono ?_
 rintro e w7 ⟨rfl,ht9,hs9⟩
 replace HX:=bT HX ht9 NE
 replace HZ:=zT HZ ht9
 replace HT:=tT HT ht9
 replace HS:=Lib.hid hs9
 clear ht9 hs9
 go_wp2_with fail
 refine (rbegins_y HS.out B6.out).mono ?_
 rintro e w8 ⟨rfl,ht9,hs9⟩
 replace HX:=bT HX ht9 NE
 replace HZ:=zT HZ ht9
 replace HT:=tT HT ht9
 replace HS:=Lib.hid hs9
 clear ht9 hs9
 replace HR:=Lib.hid (HR.out.trans (res_id _).symm)
 go_wp2_with fail
 refine ((fun s w h ho => rsome_any ihX bdX 14 1 (by decide) h ho) _ _ HS.out (fun h => HO.out (HR.out.trans (bind_out h)))).mono ?_
 rintro e w9 hq9
 rcases hq9.two (fun h => HO.out (HR.out.trans (bind_out h))) with ⟨n_k,s10,x_k,hr9,rfl,ht9,hs9,hi9⟩ | ⟨c9,p9,x_k,hr9,rfl,ht9,hs9⟩
 ·replace HR:=Lib.hid (HR.out.trans (bind_ok hr9))
  clear hr9 hq9
  have T_k:=Lib.hid (hi9.weak (S':=(fun b => w.heap.size < b)) (fun b hb h => Nat.lt_of_lt_of_le HZ.out h))
  clear hi9
  replace HX:=bT HX ht9 NE
  replace HZ:=zT HZ ht9
  replace HT:=tT HT ht9
  replace HS:=Lib.hid hs9
  clear ht9 hs9
  obtain ⟨u0X,u1X,u2X,u3X,g0X,g1X,g2X,g3X,glX⟩:=HX.out.f4
  go_wp2_with fail
  clear u0X u1X u2X u3X g0X g1X g2X g3X glX
  refine open_post (EndG w E _ x_k n_k) (end_good HE.out HQ.out HT.out HS.out HX.out (x:=x_k) (n:=n_k) T_k.out (S:=(fun b => w.heap.size < b)) (fun b h => h)) ?_
  rintro W hE
  obtain ⟨v0,v1,v2,v3,-⟩:=hE.blk.f4
  exact bodyPost_ret (v:=nvA x_k) (by simp [results,Tryz.results98,go_sem,v0,v1,v2,v3]) rfl (hE.done HR.out)
 ·replace HR:=Lib.hid (HR.out.trans (bind_no hr9))
  clear hr9 hq9
  replace HX:=bT HX ht9 NE
  replace HZ:=zT HZ ht9
  replace HT:=tT HT ht9
  replace HS:=Lib.hid hs9
  clear ht9 hs9
  obtain ⟨u0X,u1X,u2X,u3X,g0X,g1X,g2X,g3X,glX⟩:=HX.out.f4
  go_wp2_with fail
  clear u0X u1X u2X u3X g0X g1X g2X g3X glX
  refine open_post (EndB w E _ _ _) (end_bad HE.out HQ.out HT.out HS.out HX.out (x:=⟨_,_,_,_,_,_⟩)) ?_
  rintro W hE
  obtain ⟨v0,v1,v2,v3,-⟩:=hE.blk.f4
  exact bodyPost_ret (v:=nvA ⟨_,_,_,_,_,_⟩) (by simp [results,Tryz.results98,go_sem,v0,v1,v2,v3]) rfl (hE.done HR.out)
set_option maxRecDepth 100000 in
set_option maxHeartbeats 1600000 in
theorem rstmt_signal {f : Nat} (ihX : RCall f .expr 113) (bdX : RFlat 113) (ihB : RCall f .block 70) (bdB : RFlat 70) {E : Env} {s : PS} {w : World} (h : RGood w E s) (hout : run E.L E.e (f + 1) .stmt s ≠ .out) (b0 : seesP E.L ⟨#[118,97,114]⟩ s = false) (b1 : seesP E.L ⟨#[105,102]⟩ s = false) (b2 : seesP E.L ⟨#[119,104,105,108,101]⟩ s = false) (b3 : seesP E.L ⟨#[114,101,116,117,114,110]⟩ s = false) (b4 : seesP E.L ⟨#[112,114,105,110,116]⟩ s = false) (b5 : seesP E.L ⟨#[102,111,114,107]⟩ s = false) (b6 : seesP E.L ⟨#[119,97,105,116]⟩ s = false) (b7 : seesP E.L ⟨#[115,105,103,110,97,108]⟩ s = true) : Calls Tryz.prog 98 #[.pointer (some ⟨E.Q,0,none⟩)] w (REnd E (run E.L E.e (f + 1) .stmt s) w):=by
 have hE : RAt w E (.ok nd0 s):=h
 have HO:=Lib.hid hout
 generalize hrr : run E.L E.e (f + 1) .stmt s = rr at *
 have hr : rr = someP E.L E.e f 15 1 (stepP s):=by
  rw [← hrr]
  simp only [run,tx_var,tx_if,tx_while,tx_return,tx_print,tx_fork,tx_wait,tx_signal,b0,b1,b2,b3,b4,b5,b6,b7,if_true,if_false,Bool.false_eq_true]
  simp only [someP,someL,nodeP,tx_lp,tx_rp,tx_semi,tx_nil,ok_bind,if_true,List.nil_append,]
 have HR:=Lib.hid hr
 clear hrr hr hout
 have HE:=Lib.hid hE.env
 have HQ:=Lib.hid hE.old
 have NE : Hid (¬ w.heap.size = E.Q):=by have:=hE.old;show ¬ _;omega
 have NS : Hid (∀ b,(fun b => w.heap.size < b) b → ¬ b = E.Q):=fun b hb e => by have h1:=hE.old;have h2 : w.heap.size < b:=hb;omega
 obtain ⟨o9,ho9⟩:=oZ
 have hb0:=bl w o9
 have HS:=Lib.hid (h.below hb0)
 have HT:=Lib.hid (Turned.of_below (fun b => b = E.Q) hb0)
 have HX:=zB w
 have HZ:=zN w o9
 subst ho9
 clear h hE hb0
 go_enter Tryz.func98,Tryz.ntmps98
 have B0:=Lib.hid b0
 have B1:=Lib.hid b1
 have B2:=Lib.hid b2
 have B3:=Lib.hid b3
 have B4:=Lib.hid b4
 have B5:=Lib.hid b5
 have B6:=Lib.hid b6
 have B7:=Lib.hid b7
 clear b0 b1 b2 b3 b4 b5 b6 b7
 go_wp2_with fail
 generalize (w.alloc (.cells #[.int .i64 0,.string ⟨#[]⟩,.int .i64 0,.slice none 0 0] 24)) = w1 at *
 refine (rbegins_n HS.out B0.out).mono ?_
 rintro e w2 ⟨rfl,ht9,hs9⟩
 replace HX:=bT HX ht9 NE
 replace HZ:=zT HZ ht9
 replace HT:=tT HT ht9
 replace HS:=Lib.hid hs9
 clear ht9 hs9
 go_wp2_with fail
 refine (rbegins_n HS.out B1.out).mono ?_
 rintro e w3 ⟨rfl,ht9,hs9⟩
 replace HX:=bT HX ht9 NE
 replace HZ:=zT HZ ht9
 replace HT:=tT HT ht9
 replace HS:=Lib.hid hs9
 clear ht9 hs9
 go_wp2_with fail
 refine (rbegins_n HS.out B2.out).mono ?_
 rintro e w4 ⟨rfl,ht9,hs9⟩
 replace HX:=bT HX ht9 NE
 replace HZ:=zT HZ ht9
 replace HT:=tT HT ht9
 replace HS:=Lib.hid hs9
 clear ht9 hs9
 go_wp2_with fail
 refine (rbegins_n HS.out B3.out).mono ?_
 rintro e w5 ⟨rfl,ht9,hs9⟩
 replace HX:=bT HX ht9 NE
 replace HZ:=zT HZ ht9
 replace HT:=tT HT ht9
 replace HS:=Lib.hid hs9
 clear ht9 hs9
 go_wp2_with fail
 refine (rbegins_n HS.out B4.out).mono ?_
 rintro e w6 ⟨rfl,ht9,hs9⟩
 replace HX:=bT HX ht9 NE
 replace HZ:=zT HZ ht9
 replace HT:=tT HT ht9
 replace HS:=Lib.hid hs9
 clear ht9 hs9
 go_wp2_with fail
 refine (rbegins_n HS.out B5.out).mono ?_
 rintro e w7 ⟨rfl,ht9,hs9⟩
 replace HX:=bT HX ht9 NE
 replace HZ:=zT HZ ht9
 replace HT:=tT HT ht9
 replace HS:=Lib.hid hs9
 clear ht9 hs9
 go_wp2_with fail
 refine (rbegins_n HS.out B6.out).mono ?_
 rintro e w8 ⟨rfl,ht9,hs9⟩
 replace HX:=bT HX ht9 NE
 replace HZ:=zT HZ ht9
 replace HT:=tT HT ht9
 replace HS:=Lib.hid hs9
 clear ht9 hs9
 go_wp2_with fail
 refine (rbegins_y HS.out B7.out).mono ?_
 rintro e w9 ⟨rfl,ht9,hs9⟩
 replace HX:=bT HX ht9 NE
 replace HZ:=zT HZ ht9
 replace HT:=tT HT ht9
 replace HS:=Lib.hid hs9
 clear ht9 hs9
 replace HR:=Lib.hid (HR.out.trans (res_id _).symm)
 go_wp2_with fail
 refine ((fun s w h ho => rsome_any ihX bdX 15 1 (by decide) h ho) _ _ HS.out (fun h => HO.out (HR.out.trans (bind_out h)))).mono ?_
 rintro e w10 hq9
 rcases hq9.two (fun h => HO.out (HR.out.trans (bind_out h))) with ⟨n_k,s11,x_k,hr9,rfl,ht9,hs9,hi9⟩ | ⟨c9,p9,x_k,hr9,rfl,ht9,hs9⟩
 ·replace HR:=Lib.hid (HR.out.trans (bind_ok hr9))
  clear hr9 hq9
  have T_k:=Lib.hid (hi9.weak (S':=(fun b => w.heap.size < b)) (fun b hb h => Nat.lt_of_lt_of_le HZ.out h))
  clear hi9
  replace HX:=bT HX ht9 NE
  replace HZ:=zT HZ ht9
  replace HT:=tT HT ht9
  replace HS:=Lib.hid hs9
  clear ht9 hs9
  obtain ⟨u0X,u1X,u2X,u3X,g0X,g1X,g2X,g3X,glX⟩:=HX.out.f4
  go_wp2_with fail
  clear u0X u1X u2X u3X g0X g1X g2X g3X glX
  refine open_post (EndG w E _ x_k n_k) (end_good HE.out HQ.out HT.out HS.out HX.out (x:=x_k) (n:=n_k) T_k.out (S:=(fun b => w.heap.size < b)) (fun b h => h)) ?_
  rintro W hE
  obtain ⟨v0,v1,v2,v3,-⟩:=hE.blk.f4
  exact bodyPost_ret (v:=nvA x_k) (by simp [results,Tryz.results98,go_sem,v0,v1,v2,v3]) rfl (hE.done HR.out)
 ·replace HR:=Lib.hid (HR.out.trans (bind_no hr9))
  clear hr9 hq9
  replace HX:=bT HX ht9 NE
  replace HZ:=zT HZ ht9
  replace HT:=tT HT ht9
  replace HS:=Lib.hid hs9
  clear ht9 hs9
  obtain ⟨u0X,u1X,u2X,u3X,g0X,g1X,g2X,g3X,glX⟩:=HX.out.f4
  go_wp2_with fail
  clear u0X u1X u2X u3X g0X g1X g2X g3X glX
  refine open_post (EndB w E _ _ _) (end_bad HE.out HQ.out HT.out HS.out HX.out (x:=⟨_,_,_,_,_,_⟩)) ?_
  rintro W hE
  obtain ⟨v0,v1,v2,v3,-⟩:=hE.blk.f4
  exact bodyPost_ret (v:=nvA ⟨_,_,_,_,_,_⟩) (by simp [results,Tryz.results98,go_sem,v0,v1,v2,v3]) rfl (hE.done HR.out)
set_option maxRecDepth 100000 in
set_option maxHeartbeats 1600000 in
theorem rstmt_swap {f : Nat} (ihX : RCall f .expr 113) (bdX : RFlat 113) (ihB : RCall f .block 70) (bdB : RFlat 70) {E : Env} {s : PS} {w : World} (h : RGood w E s) (hout : run E.L E.e (f + 1) .stmt s ≠ .out) (b0 : seesP E.L ⟨#[118,97,114]⟩ s = false) (b1 : seesP E.L ⟨#[105,102]⟩ s = false) (b2 : seesP E.L ⟨#[119,104,105,108,101]⟩ s = false) (b3 : seesP E.L ⟨#[114,101,116,117,114,110]⟩ s = false) (b4 : seesP E.L ⟨#[112,114,105,110,116]⟩ s = false) (b5 : seesP E.L ⟨#[102,111,114,107]⟩ s = false) (b6 : seesP E.L ⟨#[119,97,105,116]⟩ s = false) (b7 : seesP E.L ⟨#[115,105,103,110,97,108]⟩ s = false) (b8 : seesP E.L ⟨#[115,119,97,112]⟩ s = true) : Calls Tryz.prog 98 #[.pointer (some ⟨E.Q,0,none⟩)] w (REnd E (run E.L E.e (f + 1) .stmt s) w):=by
 have hE : RAt w E (.ok nd0 s):=h
 have HO:=Lib.hid hout
 generalize hrr : run E.L E.e (f + 1) .stmt s = rr at *
 have hr : rr = someP E.L E.e f 16 2 (stepP s):=by
  rw [← hrr]
  simp only [run,tx_var,tx_if,tx_while,tx_return,tx_print,tx_fork,tx_wait,tx_signal,tx_swap,b0,b1,b2,b3,b4,b5,b6,b7,b8,if_true,if_false,Bool.false_eq_true]
  simp only [someP,someL,nodeP,tx_lp,tx_rp,tx_semi,tx_com,tx_nil,ok_bind,if_true,if_false,Bool.false_eq_true,List.nil_append,List.cons_append]
 have HR:=Lib.hid hr
 clear hrr hr hout
 have HE:=Lib.hid hE.env
 have HQ:=Lib.hid hE.old
 have NE : Hid (¬ w.heap.size = E.Q):=by have:=hE.old;show ¬ _;omega
 have NS : Hid (∀ b,(fun b => w.heap.size < b) b → ¬ b = E.Q):=fun b hb e => by have h1:=hE.old;have h2 : w.heap.size < b:=hb;omega
 obtain ⟨o9,ho9⟩:=oZ
 have hb0:=bl w o9
 have HS:=Lib.hid (h.below hb0)
 have HT:=Lib.hid (Turned.of_below (fun b => b = E.Q) hb0)
 have HX:=zB w
 have HZ:=zN w o9
 subst ho9
 clear h hE hb0
 go_enter Tryz.func98,Tryz.ntmps98
 have B0:=Lib.hid b0
 have B1:=Lib.hid b1
 have B2:=Lib.hid b2
 have B3:=Lib.hid b3
 have B4:=Lib.hid b4
 have B5:=Lib.hid b5
 have B6:=Lib.hid b6
 have B7:=Lib.hid b7
 have B8:=Lib.hid b8
 clear b0 b1 b2 b3 b4 b5 b6 b7 b8
 go_wp2_with fail
 generalize (w.alloc (.cells #[.int .i64 0,.string ⟨#[]⟩,.int .i64 0,.slice none 0 0] 24)) = w1 at *
 refine (rbegins_n HS.out B0.out).mono ?_
 rintro e w2 ⟨rfl,ht9,hs9⟩
 replace HX:=bT HX ht9 NE
 replace HZ:=zT HZ ht9
 replace HT:=tT HT ht9
 replace HS:=Lib.hid hs9
 clear ht9 hs9
 go_wp2_with fail
 refine (rbegins_n HS.out B1.out).mono ?_
 rintro e w3 ⟨rfl,ht9,hs9⟩
 replace HX:=bT HX ht9 NE
 replace HZ:=zT HZ ht9
 replace HT:=tT HT ht9
 replace HS:=Lib.hid hs9
 clear ht9 hs9
 go_wp2_with fail
 refine (rbegins_n HS.out B2.out).mono ?_
 rintro e w4 ⟨rfl,ht9,hs9⟩
 replace HX:=bT HX ht9 NE
 replace HZ:=zT HZ ht9
 replace HT:=tT HT ht9
 replace HS:=Lib.hid hs9
 clear ht9 hs9
 go_wp2_with fail
 refine (rbegins_n HS.out B3.out).mono ?_
 rintro e w5 ⟨rfl,ht9,hs9⟩
 replace HX:=bT HX ht9 NE
 replace HZ:=zT HZ ht9
 replace HT:=tT HT ht9
 replace HS:=Lib.hid hs9
 clear ht9 hs9
 go_wp2_with fail
 refine (rbegins_n HS.out B4.out).mono ?_
 rintro e w6 ⟨rfl,ht9,hs9⟩
 replace HX:=bT HX ht9 NE
 replace HZ:=zT HZ ht9
 replace HT:=tT HT ht9
 replace HS:=Lib.hid hs9
 clear ht9 hs9
 go_wp2_with fail
 refine (rbegins_n HS.out B5.out).mono ?_
 rintro e w7 ⟨rfl,ht9,hs9⟩
 replace HX:=bT HX ht9 NE
 replace HZ:=zT HZ ht9
 replace HT:=tT HT ht9
 replace HS:=Lib.hid hs9
 clear ht9 hs9
 go_wp2_with fail
 refine (rbegins_n HS.out B6.out).mono ?_
 rintro e w8 ⟨rfl,ht9,hs9⟩
 replace HX:=bT HX ht9 NE
 replace HZ:=zT HZ ht9
 replace HT:=tT HT ht9
 replace HS:=Lib.hid hs9
 clear ht9 hs9
 go_wp2_with fail
 refine (rbegins_n HS.out B7.out).mono ?_
 rintro e w9 ⟨rfl,ht9,hs9⟩
 replace HX:=bT HX ht9 NE
 replace HZ:=zT HZ ht9
 replace HT:=tT HT ht9
 replace HS:=Lib.hid hs9
 clear ht9 hs9
 go_wp2_with fail
 refine (rbegins_y HS.out B8.out).mono ?_
 rintro e w10 ⟨rfl,ht9,hs9⟩
 replace HX:=bT HX ht9 NE
 replace HZ:=zT HZ ht9
 replace HT:=tT HT ht9
 replace HS:=Lib.hid hs9
 clear ht9 hs9
 replace HR:=Lib.hid (HR.out.trans (res_id _).symm)
 go_wp2_with fail
 refine ((fun s w h ho => rsome_any ihX bdX 16 2 (by decide) h ho) _ _ HS.out (fun h => HO.out (HR.out.trans (bind_out h)))).mono ?_
 rintro e w11 hq9
 rcases hq9.two (fun h => HO.out (HR.out.trans (bind_out h))) with ⟨n_k,s12,x_k,hr9,rfl,ht9,hs9,hi9⟩ | ⟨c9,p9,x_k,hr9,rfl,ht9,hs9⟩
 ·replace HR:=Lib.hid (HR.out.trans (bind_ok hr9))
  clear hr9 hq9
  have T_k:=Lib.hid (hi9.weak (S':=(fun b => w.heap.size < b)) (fun b hb h => Nat.lt_of_lt_of_le HZ.out h))
  clear hi9
  replace HX:=bT HX ht9 NE
  replace HZ:=zT HZ ht9
  replace HT:=tT HT ht9
  replace HS:=Lib.hid hs9
  clear ht9 hs9
  obtain ⟨u0X,u1X,u2X,u3X,g0X,g1X,g2X,g3X,glX⟩:=HX.out.f4
  go_wp2_with fail
  clear u0X u1X u2X u3X g0X g1X g2X g3X glX
  refine open_post (EndG w E _ x_k n_k) (end_good HE.out HQ.out HT.out HS.out HX.out (x:=x_k) (n:=n_k) T_k.out (S:=(fun b => w.heap.size < b)) (fun b h => h)) ?_
  rintro W hE
  obtain ⟨v0,v1,v2,v3,-⟩:=hE.blk.f4
  exact bodyPost_ret (v:=nvA x_k) (by simp [results,Tryz.results98,go_sem,v0,v1,v2,v3]) rfl (hE.done HR.out)
 ·replace HR:=Lib.hid (HR.out.trans (bind_no hr9))
  clear hr9 hq9
  replace HX:=bT HX ht9 NE
  replace HZ:=zT HZ ht9
  replace HT:=tT HT ht9
  replace HS:=Lib.hid hs9
  clear ht9 hs9
  obtain ⟨u0X,u1X,u2X,u3X,g0X,g1X,g2X,g3X,glX⟩:=HX.out.f4
  go_wp2_with fail
  clear u0X u1X u2X u3X g0X g1X g2X g3X glX
  refine open_post (EndB w E _ _ _) (end_bad HE.out HQ.out HT.out HS.out HX.out (x:=⟨_,_,_,_,_,_⟩)) ?_
  rintro W hE
  obtain ⟨v0,v1,v2,v3,-⟩:=hE.blk.f4
  exact bodyPost_ret (v:=nvA ⟨_,_,_,_,_,_⟩) (by simp [results,Tryz.results98,go_sem,v0,v1,v2,v3]) rfl (hE.done HR.out)
set_option maxRecDepth 100000 in
set_option maxHeartbeats 1600000 in
theorem rstmt_fork {f : Nat} (ihX : RCall f .expr 113) (bdX : RFlat 113) (ihB : RCall f .block 70) (bdB : RFlat 70) {E : Env} {s : PS} {w : World} (h : RGood w E s) (hout : run E.L E.e (f + 1) .stmt s ≠ .out) (b0 : seesP E.L ⟨#[118,97,114]⟩ s = false) (b1 : seesP E.L ⟨#[105,102]⟩ s = false) (b2 : seesP E.L ⟨#[119,104,105,108,101]⟩ s = false) (b3 : seesP E.L ⟨#[114,101,116,117,114,110]⟩ s = false) (b4 : seesP E.L ⟨#[112,114,105,110,116]⟩ s = false) (b5 : seesP E.L ⟨#[102,111,114,107]⟩ s = true) : Calls Tryz.prog 98 #[.pointer (some ⟨E.Q,0,none⟩)] w (REnd E (run E.L E.e (f + 1) .stmt s) w):=by
 have hE : RAt w E (.ok nd0 s):=h
 have HO:=Lib.hid hout
 generalize hrr : run E.L E.e (f + 1) .stmt s = rr at *
 have hr:=hrr.symm
 simp only [run,nodeP,tx_nil,tx_semi,tx_lp,tx_rp,tx_com,tx_var,tx_eq,tx_if,tx_else,tx_while,tx_return,tx_print,tx_fork,tx_wait,tx_signal,tx_swap,b0,b1,b2,b3,b4,b5,if_true,if_false,Bool.false_eq_true] at hr
 have HR:=Lib.hid hr
 clear hrr hr hout
 have HE:=Lib.hid hE.env
 have HQ:=Lib.hid hE.old
 have NE : Hid (¬ w.heap.size = E.Q):=by have:=hE.old;show ¬ _;omega
 have NS : Hid (∀ b,(fun b => w.heap.size < b) b → ¬ b = E.Q):=fun b hb e => by have h1:=hE.old;have h2 : w.heap.size < b:=hb;omega
 obtain ⟨o9,ho9⟩:=oZ
 have hb0:=bl w o9
 have HS:=Lib.hid (h.below hb0)
 have HT:=Lib.hid (Turned.of_below (fun b => b = E.Q) hb0)
 have HX:=zB w
 have HZ:=zN w o9
 subst ho9
 clear h hE hb0
 go_enter Tryz.func98,Tryz.ntmps98
 have B0:=Lib.hid b0
 have B1:=Lib.hid b1
 have B2:=Lib.hid b2
 have B3:=Lib.hid b3
 have B4:=Lib.hid b4
 have B5:=Lib.hid b5
 clear b0 b1 b2 b3 b4 b5
 go_wp2_with fail
 generalize (w.alloc (.cells #[.int .i64 0,.string ⟨#[]⟩,.int .i64 0,.slice none 0 0] 24)) = w1 at *
 refine (rbegins_n HS.out B0.out).mono ?_
 rintro e w2 ⟨rfl,ht9,hs9⟩
 replace HX:=bT HX ht9 NE
 replace HZ:=zT HZ ht9
 replace HT:=tT HT ht9
 replace HS:=Lib.hid hs9
 clear ht9 hs9
 go_wp2_with fail
 refine (rbegins_n HS.out B1.out).mono ?_
 rintro e w3 ⟨rfl,ht9,hs9⟩
 replace HX:=bT HX ht9 NE
 replace HZ:=zT HZ ht9
 replace HT:=tT HT ht9
 replace HS:=Lib.hid hs9
 clear ht9 hs9
 go_wp2_with fail
 refine (rbegins_n HS.out B2.out).mono ?_
 rintro e w4 ⟨rfl,ht9,hs9⟩
 replace HX:=bT HX ht9 NE
 replace HZ:=zT HZ ht9
 replace HT:=tT HT ht9
 replace HS:=Lib.hid hs9
 clear ht9 hs9
 go_wp2_with fail
 refine (rbegins_n HS.out B3.out).mono ?_
 rintro e w5 ⟨rfl,ht9,hs9⟩
 replace HX:=bT HX ht9 NE
 replace HZ:=zT HZ ht9
 replace HT:=tT HT ht9
 replace HS:=Lib.hid hs9
 clear ht9 hs9
 go_wp2_with fail
 refine (rbegins_n HS.out B4.out).mono ?_
 rintro e w6 ⟨rfl,ht9,hs9⟩
 replace HX:=bT HX ht9 NE
 replace HZ:=zT HZ ht9
 replace HT:=tT HT ht9
 replace HS:=Lib.hid hs9
 clear ht9 hs9
 go_wp2_with fail
 refine (rbegins_y HS.out B5.out).mono ?_
 rintro e w7 ⟨rfl,ht9,hs9⟩
 replace HX:=bT HX ht9 NE
 replace HZ:=zT HZ ht9
 replace HT:=tT HT ht9
 replace HS:=Lib.hid hs9
 clear ht9 hs9
 go_wp2_with fail
 refine ((ihB E) _ _ HS.out (fun h => HO.out (HR.out.trans (bind_out h)))).mono ?_
 rintro e w8 hq9
 rcases hq9.two (fun h => HO.out (HR.out.trans (bind_out h))) with ⟨n_k,s9,x_k,hr9,rfl,ht9,hs9,hi9⟩ | ⟨c9,p9,x_k,hr9,rfl,ht9,hs9⟩
 ·replace HR:=Lib.hid (HR.out.trans (bind_ok hr9))
  clear hr9 hq9
  have T_k:=Lib.hid (hi9.weak (S':=(fun b => w.heap.size < b)) (fun b hb h => Nat.lt_of_lt_of_le HZ.out h))
  clear hi9
  replace HX:=bT HX ht9 NE
  replace HZ:=zT HZ ht9
  replace HT:=tT HT ht9
  replace HS:=Lib.hid hs9
  clear ht9 hs9
  have NE_k:=nE HQ HZ
  have HB_k:=nB w8 x_k
  obtain ⟨o9,ho9⟩:=oN x_k
  replace HX:=bA HX o9
  replace T_k:=nA T_k o9
  replace HS:=Lib.hid (HS.out.below (bl _ o9))
  replace HT:=tA HT o9
  replace HZ:=zA HZ o9
  subst ho9
  go_wp2_with fail
  (try rw [← (show (World.alloc w8 (.cells #[.int .i64 x_k.kind,.string x_k.text,.int .i64 x_k.num,.slice x_k.a x_k.len x_k.cap] 24)).heap.size = _ from World.size_alloc _ _)])
  generalize (World.alloc w8 (.cells #[.int .i64 x_k.kind,.string x_k.text,.int .i64 x_k.num,.slice x_k.a x_k.len x_k.cap] 24)) = w10 at *
  have HZ0:=HZ
  obtain ⟨o9,ho9⟩:=oN x_k
  replace HX:=bA HX o9
  replace HB_k:=bA HB_k o9
  replace T_k:=nA T_k o9
  replace HS:=Lib.hid (HS.out.below (bl _ o9))
  replace HT:=tA HT o9
  replace HZ:=zA HZ o9
  subst ho9
  obtain ⟨A9,c9,e9,-,hn9⟩:=(OwnN.new w10 0 [x_k] (by simp) (by simp) (Nat.zero_le _) #[.int .i64 x_k.kind,.string x_k.text,.int .i64 x_k.num,.slice x_k.a x_k.len x_k.cap] rfl).nodes (S':=(fun b => w.heap.size < b)) (AllN.one T_k.out) (fun b h => h) (fun k hk => by cases hk;exact (show w.heap.size < (World.heap w10).size from HZ0.out))
  cases e9
  have KN:=Lib.hid hn9
  clear hn9
  refine (rnode_any (r:=.ok nd0 _) 13 _ _ _ _ HS.out).mono ?_
  rintro e w11 ⟨rfl,ht9,hs9⟩
  have hs9 : RGood _ _ _:=hs9 nd0
  replace KN:=Lib.hid (KN.out.kept ht9.size (fun b hb hs => ht9.block b hb (NS.out b hs)) (fun b _ h => h))
  replace HX:=bT HX ht9 NE
  replace HB_k:=bT HB_k ht9 NE_k
  replace T_k:=nT T_k ht9 NS
  replace HZ:=zT HZ ht9
  replace HT:=tT HT ht9
  replace HS:=Lib.hid hs9
  clear ht9 hs9
  obtain ⟨u0X,u1X,u2X,u3X,g0X,g1X,g2X,g3X,glX⟩:=HX.out.f4
  go_wp2_with fail
  clear u0X u1X u2X u3X g0X g1X g2X g3X glX
  refine open_post (EndG w E _ ⟨13,⟨#[]⟩,0,(some ⟨(World.heap w10).size,0,none⟩),1,1⟩ (.mk 13 ⟨#[]⟩ 0 [n_k])) (end_good HE.out HQ.out HT.out HS.out HX.out (x:=⟨13,⟨#[]⟩,0,(some ⟨(World.heap w10).size,0,none⟩),1,1⟩) (n:=(.mk 13 ⟨#[]⟩ 0 [n_k])) ⟨⟨rfl,rfl,rfl,rfl⟩,KN.out⟩ (S:=(fun b => w.heap.size < b)) (fun b h => h)) ?_
  rintro W hE
  obtain ⟨v0,v1,v2,v3,-⟩:=hE.blk.f4
  exact bodyPost_ret (v:=nvA ⟨13,⟨#[]⟩,0,(some ⟨(World.heap w10).size,0,none⟩),1,1⟩) (by simp [results,Tryz.results98,go_sem,v0,v1,v2,v3]) rfl (hE.done HR.out)
 ·replace HR:=Lib.hid (HR.out.trans (bind_no hr9))
  clear hr9 hq9
  replace HX:=bT HX ht9 NE
  replace HZ:=zT HZ ht9
  replace HT:=tT HT ht9
  replace HS:=Lib.hid hs9
  clear ht9 hs9
  have NE_k:=nE HQ HZ
  have HB_k:=nB w8 x_k
  obtain ⟨o9,ho9⟩:=oN x_k
  replace HX:=bA HX o9
  replace HS:=Lib.hid (HS.out.below (bl _ o9))
  replace HT:=tA HT o9
  replace HZ:=zA HZ o9
  subst ho9
  go_wp2_with fail
  (try rw [← (show (World.alloc w8 (.cells #[.int .i64 x_k.kind,.string x_k.text,.int .i64 x_k.num,.slice x_k.a x_k.len x_k.cap] 24)).heap.size = _ from World.size_alloc _ _)])
  generalize (World.alloc w8 (.cells #[.int .i64 x_k.kind,.string x_k.text,.int .i64 x_k.num,.slice x_k.a x_k.len x_k.cap] 24)) = w12 at *
  have HZ0:=HZ
  obtain ⟨o9,ho9⟩:=oN x_k
  replace HX:=bA HX o9
  replace HB_k:=bA HB_k o9
  replace HS:=Lib.hid (HS.out.below (bl _ o9))
  replace HT:=tA HT o9
  replace HZ:=zA HZ o9
  subst ho9
  refine (rnode_bad HS.out 13 _ _ _ _).mono ?_
  rintro e w13 ⟨rfl,ht9,hs9⟩
  replace HX:=bT HX ht9 NE
  replace HB_k:=bT HB_k ht9 NE_k
  replace HZ:=zT HZ ht9
  replace HT:=tT HT ht9
  replace HS:=Lib.hid hs9
  clear ht9 hs9
  obtain ⟨u0X,u1X,u2X,u3X,g0X,g1X,g2X,g3X,glX⟩:=HX.out.f4
  go_wp2_with fail
  clear u0X u1X u2X u3X g0X g1X g2X g3X glX
  refine open_post (EndB w E _ _ _) (end_bad HE.out HQ.out HT.out HS.out HX.out (x:=⟨_,_,_,_,_,_⟩)) ?_
  rintro W hE
  obtain ⟨v0,v1,v2,v3,-⟩:=hE.blk.f4
  exact bodyPost_ret (v:=nvA ⟨_,_,_,_,_,_⟩) (by simp [results,Tryz.results98,go_sem,v0,v1,v2,v3]) rfl (hE.done HR.out)
end Go.Proofs.YtbpldfmmlgkfnaaGreatDoor
