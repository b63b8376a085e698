/- The program's parser: what ends with a semicolon; an expression in parentheses. The program's parser: blocks. Conditions: as each theorem says. -/
import Derived.Test.YtbpldfmmlgkfnaaGreatDoorEMemZ
import Derived.Test.YtbpldfmmlgkfnaaGreatDoorEPpC
import Derived.Test.YtbpldfmmlgkfnaaGreatDoorERpK
namespace Go.Proofs.YtbpldfmmlgkfnaaGreatDoor
open Go.RowKit
set_option linter.unusedVariables false
section
variable {E : Env} {rr : Res} {w w' : World} {tv uv : ByteArray} {xs : List NV} {S S' : Nat → Prop} {lo : Nat} {x : NV}
theorem PT1.cons {K : Nd → Nd → List Nd → Nd → PS → Res} (h : PT1 E rr w K tv uv xs x S lo) : PT E rr w (fun t u ls s => K t u ls.tail (hdN ls) s) tv uv (x :: xs) S lo:=by
 obtain ⟨t,u,ls,n,s,h1,h2,h3,h4,h5,h6,hl⟩:=h
 exact ⟨t,u,n :: ls,s,h1,h2,h3,h4,(AllN.one h6).app h5,hl⟩
theorem PT.uncons {K : Nd → Nd → List Nd → Nd → PS → Res} (h : PT E rr w (fun t u ls s => K t u ls.tail (hdN ls) s) tv uv (x :: xs) S lo) : PT1 E rr w K tv uv xs x S lo:=by
 obtain ⟨t,u,ls,s,h1,h2,h3,h4,h5,hl⟩:=h
 have hlen:=h5.1
 match ls,h1,h5,hlen with
 | n :: ls,h1,h5,hlen =>
  refine ⟨t,u,ls,n,s,h1,h2,h3,h4,⟨by simpa using hlen,fun i y m hy hm => h5.2 (i + 1) y m (by simpa using hy) (by simpa using hm)⟩,h5.2 0 x n rfl rfl,hl⟩
theorem pt_want1 {K : Nd → Nd → List Nd → Nd → PS → Res} (hS : ∀ b,S b → ¬ b = E.Q) {g : Nat} (y : ByteArray) (hx : w.cell? ⟨g,0,none⟩ = some (.string y)) (hg : g ≠ E.Q) (hgl : g < w.heap.size) (h : PT1 E rr w (fun t u ls n s => (wantP E.L E.e y s).bind fun _ s => K t u ls n s) tv uv xs x S lo) :
  Calls Tryz.prog 63 #[.pointer (some ⟨E.Q,0,none⟩),.slice (some ⟨g,0,none⟩) 1 1] w (Way E rr w fun v w' => v = .tuple #[] ∧ PT1 E rr w' K tv uv xs x S (lo + 1)):=by
 refine (pt_want (K:=fun t u ls s => K t u ls.tail (hdN ls) s) hS y hx hg hgl h.cons).mono ?_
 rintro e w' ⟨ht,⟨v,rfl,rfl,hst⟩ | hq⟩
 ·exact ⟨ht,.inl ⟨_,rfl,rfl,hst.uncons⟩⟩
 ·exact ⟨ht,.inr hq⟩
theorem pt_callR {K : Nd → Nd → List Nd → Nd → PS → Res} {R : PS → Res} {fn : FuncId} (hS : ∀ b,S b → ¬ b = E.Q) (ih : ∀ (s : PS) (w : World),PAt w E s → R s ≠ .out → Calls Tryz.prog fn #[.pointer (some ⟨E.Q,0,none⟩)] w (PEnd E (R s) w)) (hm : ∀ s n s',R s = .ok n s' → s.i ≤ s'.i) (ho : rr ≠ .out) (hsub : ∀ b,w.heap.size ≤ b → S b) (h : PT E rr w (fun t u ls s => (R s).bind fun n s => K t u ls n s) tv uv xs S lo) :
  Calls Tryz.prog fn #[.pointer (some ⟨E.Q,0,none⟩)] w (Way E rr w fun v w' => ∃ x,v = nvA x ∧ PT1 E rr w' K tv uv xs x S lo):=by
 obtain ⟨t,u,ls,s,h1,h2,h3,h4,h5,hl⟩:=h
 have ho2 : R s ≠ .out:=fun hx => ho (h1.trans (bind_out hx))
 refine (ih s w h2 ho2).mono ?_
 rintro e w' ⟨ht,⟨v,rfl,n,s',x,hr,rfl,hs,hi⟩ | ⟨c,p,hr,hc,rfl⟩⟩
 ·exact ⟨ht,.inl ⟨_,rfl,x,rfl,t,u,ls,n,s',h1.trans (bind_ok hr),hs,h3,h4,h5.turned ht hS,hi.weak (fun b _ hb => hsub b hb),Nat.le_trans hl (hm _ _ _ hr)⟩⟩
 ·exact ⟨ht,.inr ⟨c,p,h1.trans (bind_no hr),hc,rfl⟩⟩
end
/-- An expression in parentheses. -/
def heldP (E : Env) (f : Nat) (s : PS) : Res:=(wantP E.L E.e ⟨#[40]⟩ s).bind fun _ s => (run E.L E.e f .expr s).bind fun n s => (wantP E.L E.e ⟨#[41]⟩ s).bind fun _ s => .ok n s
theorem mo_held (E : Env) (f : Nat) (s : PS) (n : Nd) (s' : PS) (h : heldP E f s = .ok n s') : s.i ≤ s'.i:=by
 have hm : Mo (s.i + 1) (heldP E f s):=by
  unfold heldP
  refine mo_bind (lo:=s.i + 1) mo_want fun _ s1 h1 => ?_
  refine mo_bind (lo:=s1.i) (mo_run (run_mono E.L E.e f .expr s1) (Nat.le_add_right _ _)) fun _ s2 h2 => ?_
  refine mo_bind (lo:=s2.i + 1) mo_want fun _ s3 h3 => ?_
  exact mo_ok (by omega)
 have:=hm n s' h
 omega

set_option maxRecDepth 100000 in
set_option maxHeartbeats 3200000 in
theorem pheld_any {f : Nat} (ihX : PCall f .expr 108) {E : Env} {s : PS} {w : World} (h : PAt w E s) (hout : heldP E f s ≠ .out) : Calls Tryz.prog 109 #[.pointer (some ⟨E.Q,0,none⟩)] w (PEnd E (heldP E f s) w):=by
 have HO0:=Lib.hid hout
 generalize hrr : heldP E f s = rr at *
 have hr : rr = (fun (_ _ : Nd) (_ : List Nd) s => (wantP E.L E.e ⟨#[40]⟩ s).bind fun _ s => (fun (_ _ : Nd) (_ : List Nd) s => (run E.L E.e f .expr s).bind fun n s => (fun (_ _ : Nd) (_ : List Nd) n s => (wantP E.L E.e ⟨#[41]⟩ s).bind fun _ s => (fun (_ _ : Nd) (_ : List Nd) n s => Res.ok n s) nd0 nd0 [] n s) nd0 nd0 [] n s) nd0 nd0 [] s) nd0 nd0 [] s:=by rw [← hrr];rfl
 clear hrr hout
 have HQ:=Lib.hid h.old
 have NE : Hid (¬ w.heap.size = E.Q):=by have:=h.old;show ¬ _;omega
 have hfew:=h.few
 obtain ⟨o9,ho9⟩:=oZ
 have hb0:=bl w o9
 have HT:=Lib.hid (Turned.of_below (fun b => b = E.Q) hb0)
 have HX:=zB w
 have HZ:=zN w o9
 have HO:=Lib.hid (OwnN.nil (w.alloc o9) (w.heap.size + 1))
 subst ho9
 have HST : Hid (PT E rr (w.alloc (.cells #[.int .i64 0,.string ⟨#[]⟩,.int .i64 0,.slice none 0 0] 24)) (fun (_ _ : Nd) (_ : List Nd) s => (wantP E.L E.e ⟨#[40]⟩ s).bind fun _ s => (fun (_ _ : Nd) (_ : List Nd) s => (run E.L E.e f .expr s).bind fun n s => (fun (_ _ : Nd) (_ : List Nd) n s => (wantP E.L E.e ⟨#[41]⟩ s).bind fun _ s => (fun (_ _ : Nd) (_ : List Nd) n s => Res.ok n s) nd0 nd0 [] n s) nd0 nd0 [] n s) nd0 nd0 [] s) ByteArray.empty ByteArray.empty [] (SR w (.slice none 0 0)) 0):=PT.below (K:=(fun (_ _ : Nd) (_ : List Nd) s => (wantP E.L E.e ⟨#[40]⟩ s).bind fun _ s => (fun (_ _ : Nd) (_ : List Nd) s => (run E.L E.e f .expr s).bind fun n s => (fun (_ _ : Nd) (_ : List Nd) n s => (wantP E.L E.e ⟨#[41]⟩ s).bind fun _ s => (fun (_ _ : Nd) (_ : List Nd) n s => Res.ok n s) nd0 nd0 [] n s) nd0 nd0 [] n s) nd0 nd0 [] s)) ⟨nd0,nd0,[],s,hr,h,rfl,rfl,AllN.nil _ _,Nat.zero_le _⟩ hb0
 clear h hb0 hr
 go_enter Tryz.func109,Tryz.ntmps109
 go_wp2_with fail
 (try rw [← (show (w.alloc (.cells #[.int .i64 0,.string ⟨#[]⟩,.int .i64 0,.slice none 0 0] 24)).heap.size = _ from World.size_alloc _ _)])
 generalize (w.alloc (.cells #[.int .i64 0,.string ⟨#[]⟩,.int .i64 0,.slice none 0 0] 24)) = w1 at *
 have HB_k2:=Lib.hid (Blk.new w1 9 #[.string ⟨#[40]⟩])
 have NB_k2:=nE HQ HZ
 have HG_k2 : Hid (w.heap.size < (World.heap w1).size):=HZ.out
 replace HX:=bA HX (.cells #[.string ⟨#[40]⟩] 9)
 replace HO:=oA HO (.cells #[.string ⟨#[40]⟩] 9)
 replace HST:=Lib.hid (HST.out.alloc (.cells #[.string ⟨#[40]⟩] 9))
 replace HT:=tA HT (.cells #[.string ⟨#[40]⟩] 9)
 replace HZ:=zA HZ (.cells #[.string ⟨#[40]⟩] 9)
 go_wp2_with fail
 (try rw [← (show (World.alloc w1 (.cells #[.string ⟨#[40]⟩] 9)).heap.size = _ from World.size_alloc _ _)])
 generalize (World.alloc w1 (.cells #[.string ⟨#[40]⟩] 9)) = w3 at *
 generalize (World.heap w1).size = b_k2 at *
 refine (pt_want (sr_ne HQ.out) (g:=b_k2) _ HB_k2.out.f1.1 NB_k2.out HB_k2.out.lt HST.out).mono ?_
 rintro e w4 ⟨ht9,⟨v9,rfl,rfl,hst9⟩ | ⟨c9,p9,hr9,hc9,rfl⟩⟩
 rotate_left
 ·exact ⟨rfl,HT.out.then ht9,.inr ⟨_,_,hr9,hc9,rfl⟩⟩
 clear HB_k2 NB_k2 HG_k2
 replace HX:=bT HX ht9 NE
 replace HO:=Lib.hid (HO.out.turned ht9 (row_ne HO.out HQ.out))
 replace HZ:=zT HZ ht9
 replace HT:=tT HT ht9
 replace HST:=Lib.hid hst9
 clear ht9 hst9
 replace HST : Hid (PT E rr _ (fun (_ _ : Nd) (_ : List Nd) s => (run E.L E.e f .expr s).bind fun n s => (fun (_ _ : Nd) (_ : List Nd) n s => (wantP E.L E.e ⟨#[41]⟩ s).bind fun _ s => (fun (_ _ : Nd) (_ : List Nd) n s => Res.ok n s) nd0 nd0 [] n s) nd0 nd0 [] n s) _ _ _ _ _):=HST.out
 go_wp2_with fail
 refine (pt_call (sr_ne HQ.out) ihX HO0.out (fun b hb => ⟨Nat.lt_of_lt_of_le HZ.out hb,fun e => Nat.lt_irrefl _ (Nat.lt_of_lt_of_le (HO.out.lt _ e).2 hb)⟩) HST.out).mono ?_
 rintro e w5 ⟨ht9,⟨v9,rfl,x_n,rfl,hst9⟩ | ⟨c9,p9,hr9,hc9,rfl⟩⟩
 rotate_left
 ·exact ⟨rfl,HT.out.then ht9,.inr ⟨_,_,hr9,hc9,rfl⟩⟩
 replace HX:=bT HX ht9 NE
 replace HO:=Lib.hid (HO.out.turned ht9 (row_ne HO.out HQ.out))
 replace HZ:=zT HZ ht9
 replace HT:=tT HT ht9
 replace HST:=Lib.hid hst9
 clear ht9 hst9
 have HB_n:=nB w5 x_n
 have NB_n:=nE HQ HZ
 have HG_n : Hid (w.heap.size < (World.heap w5).size):=HZ.out
 obtain ⟨o9,ho9⟩:=oN x_n
 replace HX:=bA HX o9
 replace HO:=oA HO o9
 replace HST:=Lib.hid (HST.out.alloc o9)
 replace HT:=tA HT o9
 replace HZ:=zA HZ o9
 subst ho9
 go_wp2_with fail
 (try rw [← (show (World.alloc w5 (.cells #[.int .i64 x_n.kind,.string x_n.text,.int .i64 x_n.num,.slice x_n.a x_n.len x_n.cap] 24)).heap.size = _ from World.size_alloc _ _)])
 generalize (World.alloc w5 (.cells #[.int .i64 x_n.kind,.string x_n.text,.int .i64 x_n.num,.slice x_n.a x_n.len x_n.cap] 24)) = w6 at *
 generalize (World.heap w5).size = b_n at *
 replace HST : Hid (PT1 E rr _ (fun (_ _ : Nd) (_ : List Nd) n s => (wantP E.L E.e ⟨#[41]⟩ s).bind fun _ s => (fun (_ _ : Nd) (_ : List Nd) n s => Res.ok n s) nd0 nd0 [] n s) _ _ _ _ _ _):=HST.out
 have HB_k7:=Lib.hid (Blk.new w6 9 #[.string ⟨#[41]⟩])
 have NB_k7:=nE HQ HZ
 have HG_k7 : Hid (w.heap.size < (World.heap w6).size):=HZ.out
 replace HX:=bA HX (.cells #[.string ⟨#[41]⟩] 9)
 replace HB_n:=bA HB_n (.cells #[.string ⟨#[41]⟩] 9)
 replace HO:=oA HO (.cells #[.string ⟨#[41]⟩] 9)
 replace HST:=Lib.hid (HST.out.alloc (.cells #[.string ⟨#[41]⟩] 9))
 replace HT:=tA HT (.cells #[.string ⟨#[41]⟩] 9)
 replace HZ:=zA HZ (.cells #[.string ⟨#[41]⟩] 9)
 go_wp2_with fail
 (try rw [← (show (World.alloc w6 (.cells #[.string ⟨#[41]⟩] 9)).heap.size = _ from World.size_alloc _ _)])
 generalize (World.alloc w6 (.cells #[.string ⟨#[41]⟩] 9)) = w8 at *
 generalize (World.heap w6).size = b_k7 at *
 refine (pt_want1 (sr_ne HQ.out) (g:=b_k7) _ HB_k7.out.f1.1 NB_k7.out HB_k7.out.lt HST.out).mono ?_
 rintro e w9 ⟨ht9,⟨v9,rfl,rfl,hst9⟩ | ⟨c9,p9,hr9,hc9,rfl⟩⟩
 rotate_left
 ·exact ⟨rfl,HT.out.then ht9,.inr ⟨_,_,hr9,hc9,rfl⟩⟩
 clear HB_k7 NB_k7 HG_k7
 replace HX:=bT HX ht9 NE
 replace HB_n:=bT HB_n ht9 NB_n
 replace HO:=Lib.hid (HO.out.turned ht9 (row_ne HO.out HQ.out))
 replace HZ:=zT HZ ht9
 replace HT:=tT HT ht9
 replace HST:=Lib.hid hst9
 clear ht9 hst9
 obtain ⟨y0,y1,y2,y3,e0,e1,e2,e3,el⟩:=HB_n.out.f4
 replace HST : Hid (PT1 E rr _ (fun _ _ _ n s => .ok n s) _ _ _ _ _ _):=HST.out
 obtain ⟨u0,u1,u2,u3,g0,g1,g2,g3,gl⟩:=HX.out.f4
 go_wp2_with fail
 clear y0 y1 y2 y3 e0 e1 e2 e3 el u0 u1 u2 u3 g0 g1 g2 g3 gl
 have HEND:=Lib.hid (pt_end (x:=x_n) HQ.out HT.out HX.out (fun b h => h.1) HST.out rfl)
 refine open_post (fun W => Blk W w.heap.size 24 #[.int .i64 x_n.kind,.string x_n.text,.int .i64 x_n.num,.slice x_n.a x_n.len x_n.cap] ∧ PEnd E rr w (.returned (nvA x_n)) W) HEND.out ?_
 rintro W ⟨hb,hE⟩
 obtain ⟨v0,v1,v2,v3,-⟩:=hb.f4
 exact bodyPost_ret (v:=nvA x_n) (by simp [results,Tryz.results109,go_sem,nvA,v0,v1,v2,v3]) rfl hE
set_option maxRecDepth 100000 in
set_option maxHeartbeats 1600000 in
theorem pended_any {E : Env} {rr : Res} {w : World} {K : Nd → Nd → List Nd → Nd → PS → Res} {tv uv : ByteArray} {xs : List NV} {x : NV} {S : Nat → Prop} {lo : Nat} (hS : ∀ b,S b → ¬ b = E.Q) (hQ : E.Q < w.heap.size) (h : PT1 E rr w (fun t u ls n s => (wantP E.L E.e ⟨#[59]⟩ s).bind fun _ s => K t u ls n s) tv uv xs x S lo) :
  Calls Tryz.prog 107 #[.pointer (some ⟨E.Q,0,none⟩),.agg #[.int .i64 x.kind,.string x.text,.int .i64 x.num,.slice x.a x.len x.cap]] w (Way E rr w fun v w' => v = nvA x ∧ PT1 E rr w' K tv uv xs x S (lo + 1)):=by
 have HS:=Lib.hid (show ∀ b,(fun b => S b ∧ b < w.heap.size) b → ¬ b = E.Q from fun b hb => hS b hb.1)
 obtain ⟨o9,ho9⟩:=oN x
 have hst:=((h.weak (S':=fun b => S b ∧ b < w.heap.size) (fun b hb hs => ⟨hs,hb⟩)).alloc o9).alloc (.cells #[.int .i64 0,.string ⟨#[]⟩,.int .i64 0,.slice none 0 0] 24)
 have HST:=Lib.hid (hst.alloc (.cells #[.string ⟨#[59]⟩] 9))
 have HQ:=Lib.hid hQ
 have HB:=Lib.hid (((Blk.new w 24 #[.int .i64 x.kind,.string x.text,.int .i64 x.num,.slice x.a x.len x.cap]).alloc (.cells #[.int .i64 0,.string ⟨#[]⟩,.int .i64 0,.slice none 0 0] 24)).alloc (.cells #[.string ⟨#[59]⟩] 9))
 have hx:=(Blk.new (w.alloc o9) 24 #[.int .i64 0,.string ⟨#[]⟩,.int .i64 0,.slice none 0 0]).alloc (.cells #[.string ⟨#[59]⟩] 9)
 subst ho9
 rw [World.size_alloc] at hx
 have HX:=Lib.hid hx
 obtain ⟨o9,ho9⟩:=oN x
 have hk:=Blk.new ((w.alloc o9).alloc (.cells #[.int .i64 0,.string ⟨#[]⟩,.int .i64 0,.slice none 0 0] 24)) 9 #[.string ⟨#[59]⟩]
 subst ho9
 rw [World.size_alloc,World.size_alloc] at hk
 have HK:=Lib.hid hk
 have NK : Hid (w.heap.size + 1 + 1 ≠ E.Q):=by show _ ≠ _;omega
 have NB : Hid (¬ w.heap.size = E.Q):=by show ¬ _;omega
 have NX : Hid (¬ w.heap.size + 1 = E.Q):=by show ¬ _;omega
 obtain ⟨o9,ho9⟩:=oN x
 have HT:=Lib.hid ((((Turned.refl w (fun b => b = E.Q)).alloc o9).alloc (.cells #[.int .i64 0,.string ⟨#[]⟩,.int .i64 0,.slice none 0 0] 24)).alloc (.cells #[.string ⟨#[59]⟩] 9))
 subst ho9
 clear h hst hk hS hQ hx
 go_enter Tryz.func107,Tryz.ntmps107
 go_wp2_with fail
 generalize (((w.alloc (.cells #[.int .i64 x.kind,.string x.text,.int .i64 x.num,.slice x.a x.len x.cap] 24)).alloc (.cells #[.int .i64 0,.string ⟨#[]⟩,.int .i64 0,.slice none 0 0] 24)).alloc (.cells #[.string ⟨#[59]⟩] 9)) = w3 at *
 refine (pt_want1 HS.out (g:=w.heap.size + 1 + 1) _ HK.out.f1.1 NK.out HK.out.lt HST.out).mono ?_
 rintro e w4 ⟨ht9,⟨v9,rfl,rfl,hst9⟩ | ⟨c9,p9,hr9,hc9,rfl⟩⟩
 rotate_left
 ·exact ⟨rfl,HT.out.then ht9,.inr ⟨_,_,hr9,hc9,rfl⟩⟩
 replace HB:=bT HB ht9 NB
 replace HX:=bT HX ht9 NX
 replace HT:=tT HT ht9
 have HZ:=Lib.hid (Nat.le_trans (Nat.le_of_lt HK.out.lt) ht9.size)
 replace HST:=Lib.hid hst9
 clear ht9 hst9 HK
 obtain ⟨y0,y1,y2,y3,e0,e1,e2,e3,el⟩:=HB.out.f4
 obtain ⟨u0,u1,u2,u3,g0,g1,g2,g3,gl⟩:=HX.out.f4
 go_wp2_with fail
 clear y0 y1 y2 y3 e0 e1 e2 e3 el u0 u1 u2 u3 g0 g1 g2 g3 gl
 obtain ⟨k1,k2,k3,k4⟩:=box_node HT.out HX.out (Nat.le_succ _) (.int .i64 x.kind) (.string x.text) (.int .i64 x.num) (.slice x.a x.len x.cap)
 have hq:=HQ.out
 have hf:=HST.out.keep (S':=S) (fun s hs => hs.kept (Nat.le_of_eq k4.symm) (fun k hk => k3 k (by omega))) (Nat.le_of_eq k4.symm) (fun b _ hb => k3 b (by have:=hb.2;omega)) (fun b _ hb => hb.1)
 refine open_post (fun W => Blk W (w.heap.size + 1) 24 #[.int .i64 x.kind,.string x.text,.int .i64 x.num,.slice x.a x.len x.cap] ∧ Turned w W (fun b => b = E.Q) ∧ PT1 E rr W K tv uv xs x S (lo + 1)) ⟨k2,k1,hf⟩ ?_
 rintro W ⟨hb,h1,h2⟩
 obtain ⟨v0,v1,v2,v3,-⟩:=hb.f4
 exact bodyPost_ret (v:=nvA x) (by simp [results,Tryz.results107,go_sem,nvA,v0,v1,v2,v3]) rfl ⟨h1,.inl ⟨_,rfl,rfl,h2⟩⟩
end Go.Proofs.YtbpldfmmlgkfnaaGreatDoor

namespace Go.Proofs.YtbpldfmmlgkfnaaGreatDoor
open Go.RowKit
set_option linter.unusedVariables false
section
variable {E : Env} {rr : Res} {w w' : World} {tv uv : ByteArray} {xs : List NV} {S S' : Nat → Prop} {lo : Nat} {x : NV}
theorem pt_callS {K : Nd → Nd → List Nd → Nd → PS → Res} {f : Nat} {c : Cmd} {fn : FuncId} (hS : ∀ b,S b → ¬ b = E.Q) (ih : PCall f c fn) (ho : rr ≠ .out) (hsub : ∀ b,w.heap.size ≤ b → S b) (h : PT E rr w (fun t u ls s => (run E.L E.e f c s).bind fun n s => K t u ls n s) tv uv xs S lo) :
  Calls Tryz.prog fn #[.pointer (some ⟨E.Q,0,none⟩)] w (Way E rr w fun v w' => ∃ x,v = nvA x ∧ PT1 E rr w' K tv uv xs x S (lo + str c)):=by
 obtain ⟨t,u,ls,s,h1,h2,h3,h4,h5,hl⟩:=h
 have ho2 : run E.L E.e f c s ≠ .out:=fun hx => ho (h1.trans (bind_out hx))
 refine (ih E s w h2 ho2).mono ?_
 rintro e w' ⟨ht,⟨v,rfl,n,s',x,hr,rfl,hs,hi⟩ | ⟨c,p,hr,hc,rfl⟩⟩
 ·exact ⟨ht,.inl ⟨_,rfl,x,rfl,t,u,ls,n,s',h1.trans (bind_ok hr),hs,h3,h4,h5.turned ht hS,hi.weak (fun b _ hb => hsub b hb),Nat.le_trans (Nat.add_le_add_right hl _) (run_mono _ _ _ _ _ _ _ hr)⟩⟩
 ·exact ⟨ht,.inr ⟨c,p,h1.trans (bind_no hr),hc,rfl⟩⟩
theorem PT.notout {K : Nd → Nd → List Nd → PS → Res} (h : PT E rr w K tv uv xs S lo) (hk : ∀ t u ls s,K t u ls s = .out) : rr = .out:=by
 obtain ⟨t,u,ls,s,h1,-⟩:=h
 exact h1.trans (hk t u ls s)
theorem pstmts_open {K : Nd → Nd → PS → Res} {g : Nat} (ho : rr ≠ .out) (h : PT E rr w (fun t _ ls s => (run E.L E.e g (.stmtsL ls) s).bind (K t)) tv uv xs S lo) :
  ∃ g',g' < g ∧ PT E rr w (fun t u ls s => if seesP E.L ⟨#[125]⟩ s = true then (fun t (_ : Nd) ls s => K t (ndL ls) s) t u ls s else (fun t (_ : Nd) ls s => (run E.L E.e g' .stmt s).bind fun k s => (fun t (_ : Nd) ls k s => (fun t (_ : Nd) ls s => (run E.L E.e g' (.stmtsL ls) s).bind (K t)) t nd0 (ls ++ [k]) s) t nd0 ls k s) t u ls s) tv uv xs S lo:=by
 cases g with
 | zero => exact absurd (h.notout (fun t u ls s => rfl)) ho
 | succ g =>
  refine ⟨g,Nat.lt_succ_self _,h.congrL (fun t u ls s _ => ?_)⟩
  simp only [run,tx_rb]
  split
  ·rfl
  ·simp only [bind_assoc]
end
def blkP (E : Env) (_ a : Nd) (s : PS) : Res:=(wantP E.L E.e ⟨#[125]⟩ s).bind fun _ s => Res.ok (.mk 6 ⟨#[]⟩ 0 a.kids) ⟨s.i,s.dep,s.many + 1⟩
/-- What the loop over a block's statements holds. -/
def PBlk (w : World) (E : Env) (rr : Res) (f gk : Nat) (v : Value) (wr : World) : Prop :=
 Turned w wr (fun b => b = E.Q) ∧ w.heap.size < wr.heap.size ∧ Blk wr w.heap.size 24 #[.int .i64 0,.string ⟨#[]⟩,.int .i64 0,.slice none 0 0] ∧
  ∃ A n c xs tv uv g i,v = .slice A n c ∧ OwnN wr (w.heap.size + 1) (.slice A n c) xs ∧ xs.length ≤ i ∧ i ≤ E.L.length ∧ E.L.length - i ≤ gk ∧ g ≤ f ∧ PT E rr wr (fun (t _ : Nd) ls s => (run E.L E.e g (.stmtsL ls) s).bind (blkP E t)) tv uv xs (SR w (.slice A n c)) i

set_option maxRecDepth 100000 in
set_option maxHeartbeats 3200000 in
theorem pblock_any {f : Nat} (ihM : ∀ g,g ≤ f → PCall g .stmt 94) {E : Env} {s : PS} {w : World} (h : PAt w E s) (hout : run E.L E.e (f + 1) .block s ≠ .out) : Calls Tryz.prog 64 #[.pointer (some ⟨E.Q,0,none⟩)] w (PEnd E (run E.L E.e (f + 1) .block s) w):=by
 have HO0:=Lib.hid hout
 generalize hrr : run E.L E.e (f + 1) .block s = rr at *
 have hr : rr = (fun (t u : Nd) (ls : List Nd) s => (wantP E.L E.e ⟨#[123]⟩ s).bind fun _ s => (fun (t _ : Nd) ls s => (run E.L E.e f (.stmtsL ls) s).bind (blkP E t)) t u ls s) nd0 nd0 [] s:=by rw [← hrr];simp only [run,nodeP,tx_lb,tx_rb,tx_nil] <;> rfl
 clear hrr hout
 have HQ:=Lib.hid h.old
 have NE : Hid (¬ w.heap.size = E.Q):=by have:=h.old;show ¬ _;omega
 have hfew:=h.few
 obtain ⟨o9,ho9⟩:=oZ
 have hb0:=bl w o9
 have HT:=Lib.hid (Turned.of_below (fun b => b = E.Q) hb0)
 have HX:=zB w
 have HZ:=zN w o9
 have HO:=Lib.hid (OwnN.nil (w.alloc o9) (w.heap.size + 1))
 subst ho9
 have HST : Hid (PT E rr (w.alloc (.cells #[.int .i64 0,.string ⟨#[]⟩,.int .i64 0,.slice none 0 0] 24)) (fun (t u : Nd) (ls : List Nd) s => (wantP E.L E.e ⟨#[123]⟩ s).bind fun _ s => (fun (t _ : Nd) ls s => (run E.L E.e f (.stmtsL ls) s).bind (blkP E t)) t u ls s) ByteArray.empty ByteArray.empty [] (SR w (.slice none 0 0)) 0):=PT.below (K:=(fun (t u : Nd) (ls : List Nd) s => (wantP E.L E.e ⟨#[123]⟩ s).bind fun _ s => (fun (t _ : Nd) ls s => (run E.L E.e f (.stmtsL ls) s).bind (blkP E t)) t u ls s)) ⟨nd0,nd0,[],s,hr,h,rfl,rfl,AllN.nil _ _,Nat.zero_le _⟩ hb0
 clear h hb0 hr
 go_enter Tryz.func64,Tryz.ntmps64
 go_wp2_with fail
 (try rw [← (show (w.alloc (.cells #[.int .i64 0,.string ⟨#[]⟩,.int .i64 0,.slice none 0 0] 24)).heap.size = _ from World.size_alloc _ _)])
 generalize (w.alloc (.cells #[.int .i64 0,.string ⟨#[]⟩,.int .i64 0,.slice none 0 0] 24)) = w1 at *
 have HB_k2:=Lib.hid (Blk.new w1 9 #[.string ⟨#[123]⟩])
 have NB_k2:=nE HQ HZ
 have HG_k2 : Hid (w.heap.size < (World.heap w1).size):=HZ.out
 replace HX:=bA HX (.cells #[.string ⟨#[123]⟩] 9)
 replace HO:=oA HO (.cells #[.string ⟨#[123]⟩] 9)
 replace HST:=Lib.hid (HST.out.alloc (.cells #[.string ⟨#[123]⟩] 9))
 replace HT:=tA HT (.cells #[.string ⟨#[123]⟩] 9)
 replace HZ:=zA HZ (.cells #[.string ⟨#[123]⟩] 9)
 go_wp2_with fail
 (try rw [← (show (World.alloc w1 (.cells #[.string ⟨#[123]⟩] 9)).heap.size = _ from World.size_alloc _ _)])
 generalize (World.alloc w1 (.cells #[.string ⟨#[123]⟩] 9)) = w3 at *
 generalize (World.heap w1).size = b_k2 at *
 refine (pt_want (sr_ne HQ.out) (g:=b_k2) _ HB_k2.out.f1.1 NB_k2.out HB_k2.out.lt HST.out).mono ?_
 rintro e w4 ⟨ht9,⟨v9,rfl,rfl,hst9⟩ | ⟨c9,p9,hr9,hc9,rfl⟩⟩
 rotate_left
 ·exact ⟨rfl,HT.out.then ht9,.inr ⟨_,_,hr9,hc9,rfl⟩⟩
 clear HB_k2 NB_k2 HG_k2
 replace HX:=bT HX ht9 NE
 replace HO:=Lib.hid (HO.out.turned ht9 (row_ne HO.out HQ.out))
 replace HZ:=zT HZ ht9
 replace HT:=tT HT ht9
 replace HST:=Lib.hid hst9
 clear ht9 hst9
 go_wp2_with fail
 go_loopg [3] E.L.length (fun gk v wr => PBlk w E rr f gk v wr)
 case atStart => exact ⟨HT.out,HZ.out,HX.out,_,_,_,_,_,_,f,0,rfl,HO.out,by simp,Nat.zero_le _,by omega,Nat.le_refl _,HST.out.low (Nat.zero_le _)⟩
 case round =>
  clear HT HZ HX HO HST
  obtain ⟨ht,hz,hx,A_r,n_r,c_r,xs_r,tv,uv,g,i,rfl,ho,hl,hi,hgk,hgf,hst⟩:=hrel
  obtain ⟨g2,hg2,hst⟩:=pstmts_open HO0.out hst
  have HT:=Lib.hid ht
  have HZ:=Lib.hid hz
  have HX:=Lib.hid hx
  have HO:=Lib.hid ho
  have HL:=Lib.hid hl
  have HST:=Lib.hid hst
  have HGK:=Lib.hid hgk
  clear ht hz hx ho hl hst hgk
  go_wp2_with fail
  refine (pt_sees (sr_ne HQ.out) ⟨#[125]⟩ HST.out).mono ?_
  rintro e w5 ⟨b9,rfl,ht9,hy9,hn9⟩
  replace HX:=bT HX ht9 NE
  replace HO:=Lib.hid (HO.out.turned ht9 (row_ne HO.out HQ.out))
  replace HZ:=zT HZ ht9
  replace HT:=tT HT ht9
  clear ht9 HST
  cases b9
  ·have HST:=Lib.hid (hn9 rfl)
   clear hy9 hn9
   replace HST : Hid (PT E rr _ (fun (t _ : Nd) ls s => (run E.L E.e g2 .stmt s).bind fun k s => (fun (t _ : Nd) ls k s => (fun (t _ : Nd) ls s => (run E.L E.e g2 (.stmtsL ls) s).bind (blkP E t)) t nd0 (ls ++ [k]) s) t nd0 ls k s) _ _ _ _ _):=HST.out
   go_wp2_with fail
   refine (pt_callS (sr_ne HQ.out) (ihM g2 (by omega)) HO0.out (fun b hb => ⟨Nat.lt_of_lt_of_le HZ.out hb,fun e => Nat.lt_irrefl _ (Nat.lt_of_lt_of_le (HO.out.lt _ e).2 hb)⟩) HST.out).mono ?_
   rintro e w6 ⟨ht9,⟨v9,rfl,x_k,rfl,hst9⟩ | ⟨c9,p9,hr9,hc9,rfl⟩⟩
   rotate_left
   ·exact ⟨rfl,HT.out.then ht9,.inr ⟨_,_,hr9,hc9,rfl⟩⟩
   replace HX:=bT HX ht9 NE
   replace HO:=Lib.hid (HO.out.turned ht9 (row_ne HO.out HQ.out))
   replace HZ:=zT HZ ht9
   replace HT:=tT HT ht9
   replace HST:=Lib.hid hst9
   clear ht9 hst9
   have HI2:=Lib.hid (show i + str .stmt ≤ E.L.length by obtain ⟨t,u,ls,n,s,h1,h2,h3,h4,h5,h6,hl⟩:=HST.out;exact Nat.le_trans hl h2.le)
   replace HST : Hid (PT1 E rr _ (fun (t u : Nd) ls k s => (fun (t u : Nd) ls s => (fun (t _ : Nd) ls s => (run E.L E.e g2 (.stmtsL ls) s).bind (blkP E t)) t nd0 ls s) t u (ls ++ [k]) s) _ _ _ _ _ _):=HST.out
   have HZ0:=HZ
   obtain ⟨o9,ho9⟩:=oN x_k
   replace HX:=bA HX o9
   replace HO:=oA HO o9
   replace HST:=Lib.hid (HST.out.alloc o9)
   replace HT:=tA HT o9
   replace HZ:=zA HZ o9
   subst ho9
   have LIE:=lN1 w6 x_k
   have BD1 : Hid ((xs_r).length ≤ 1000000):=by have:=HL.out;show _ ≤ _;omega
   have BD2 : Hid ([x_k].length ≤ 1000000):=by show _ ≤ _;simp
   go_wp2_with (at_builtin;refine wpList_joinNd rfl _ _ rfl (w.heap.size + 1) _ _ rfl HO.out (some ⟨(World.heap w6).size,0,none⟩) [x_k] 1 rfl LIE.out BD1.out BD2.out HZ.out ?_;intro A7 n8 c9 w10 hown hgr hpl;have HOWN:=Lib.hid hown;have HGR:=Lib.hid hgr;have HPL:=Lib.hid hpl;clear hown hgr hpl)
   replace HX:=Lib.hid (HX.out.grown HGR.out (row_nw HO.out))
   replace HZ:=Lib.hid (Nat.lt_of_lt_of_le HZ.out HGR.out.size)
   replace HT:=Lib.hid (HT.out.grown HGR.out (fun k e => .inr (row_ge HO.out k e)))
   replace HST:=Lib.hid (PT1.push (K:=(fun (t u : Nd) ls s => (fun (t _ : Nd) ls s => (run E.L E.e g2 (.stmtsL ls) s).bind (blkP E t)) t nd0 ls s)) HST.out HQ.out HO.out HGR.out HPL.out)
   replace HO:=HOWN
   clear LIE HGR HPL HOWN
   have hi2:=HI2.out
   have hl9:=HL.out
   have hg9:=HGK.out
   have hstr : str .stmt = 1:=rfl
   rw [hstr] at hi2
   go_wp2_with fail
   go_roundg (gk - 1)
   case measure => omega
   case rel => exact ⟨HT.out,HZ.out,HX.out,_,_,_,_,_,_,g2,i + 1,rfl,HO.out,by simp;omega,by omega,by omega,by omega,HST.out⟩
  ·have HST:=Lib.hid (hy9 rfl).1
   clear hy9 hn9
   replace HST : Hid (PT E rr _ (fun (t u : Nd) ls s => (wantP E.L E.e ⟨#[125]⟩ s).bind fun _ s => (fun (t u : Nd) ls s => (fun (t u : Nd) ls s => (fun (_ _ : Nd) (_ : List Nd) n s => Res.ok n s) t u [] (.mk 6 ((fun _ _ => ⟨#[]⟩) t u) 0 ls) s) t u ls ⟨s.i,s.dep,s.many + 1⟩) t u ls s) _ _ _ _ _):=HST.out
   have HB_k11:=Lib.hid (Blk.new w5 9 #[.string ⟨#[125]⟩])
   have NB_k11:=nE HQ HZ
   have HG_k11 : Hid (w.heap.size < (World.heap w5).size):=HZ.out
   replace HX:=bA HX (.cells #[.string ⟨#[125]⟩] 9)
   replace HO:=oA HO (.cells #[.string ⟨#[125]⟩] 9)
   replace HST:=Lib.hid (HST.out.alloc (.cells #[.string ⟨#[125]⟩] 9))
   replace HT:=tA HT (.cells #[.string ⟨#[125]⟩] 9)
   replace HZ:=zA HZ (.cells #[.string ⟨#[125]⟩] 9)
   go_wp2_with fail
   (try rw [← (show (World.alloc w5 (.cells #[.string ⟨#[125]⟩] 9)).heap.size = _ from World.size_alloc _ _)])
   generalize (World.alloc w5 (.cells #[.string ⟨#[125]⟩] 9)) = w12 at *
   generalize (World.heap w5).size = b_k11 at *
   refine (pt_want (sr_ne HQ.out) (g:=b_k11) _ HB_k11.out.f1.1 NB_k11.out HB_k11.out.lt HST.out).mono ?_
   rintro e w13 ⟨ht9,⟨v9,rfl,rfl,hst9⟩ | ⟨c9,p9,hr9,hc9,rfl⟩⟩
   rotate_left
   ·exact ⟨rfl,HT.out.then ht9,.inr ⟨_,_,hr9,hc9,rfl⟩⟩
   clear HB_k11 NB_k11 HG_k11
   replace HX:=bT HX ht9 NE
   replace HO:=Lib.hid (HO.out.turned ht9 (row_ne HO.out HQ.out))
   replace HZ:=zT HZ ht9
   replace HT:=tT HT ht9
   replace HST:=Lib.hid hst9
   clear ht9 hst9
   replace HST : Hid (PT E rr _ (fun (t u : Nd) ls s => (fun (t u : Nd) ls s => (fun (_ _ : Nd) (_ : List Nd) n s => Res.ok n s) t u [] (.mk 6 ((fun _ _ => ⟨#[]⟩) t u) 0 ls) s) t u ls ⟨s.i,s.dep,s.many + 1⟩) _ _ _ _ _):=HST.out
   go_wp2_with fail
   refine (pt_node (sr_ne HQ.out) 6 _ _ _ _ HST.out).mono ?_
   rintro e w14 ⟨rfl,ht9,hst9⟩
   replace HX:=bT HX ht9 NE
   replace HO:=Lib.hid (HO.out.turned ht9 (row_ne HO.out HQ.out))
   replace HZ:=zT HZ ht9
   replace HT:=tT HT ht9
   replace HST:=Lib.hid hst9
   clear ht9 hst9
   replace HST:=Lib.hid (PT.made (K:=(fun (_ _ : Nd) (_ : List Nd) n s => Res.ok n s)) (S':=SR w (.slice none 0 0)) (fun _ _ => ⟨#[]⟩) (fun _ _ _ _ => rfl) HO.out (fun b h => ⟨h.1,fun e => by cases e⟩) (fun k hk => ⟨row_gt HO.out k hk,fun e => by cases e⟩) HST.out)
   clear HO
   have HO:=Lib.hid (OwnN.nil w14 (w.heap.size + 1))
   obtain ⟨u0,u1,u2,u3,g0,g1,g2,g3,gl⟩:=HX.out.f4
   go_wp2_with fail
   clear u0 u1 u2 u3 g0 g1 g2 g3 gl
   have HEND:=Lib.hid (pt_end (x:=(⟨6,⟨#[]⟩,0,A_r,n_r,c_r⟩ : NV)) HQ.out HT.out HX.out (fun b h => h.1) HST.out rfl)
   refine open_post (fun W => Blk W w.heap.size 24 #[.int .i64 (⟨6,⟨#[]⟩,0,A_r,n_r,c_r⟩ : NV).kind,.string (⟨6,⟨#[]⟩,0,A_r,n_r,c_r⟩ : NV).text,.int .i64 (⟨6,⟨#[]⟩,0,A_r,n_r,c_r⟩ : NV).num,.slice (⟨6,⟨#[]⟩,0,A_r,n_r,c_r⟩ : NV).a (⟨6,⟨#[]⟩,0,A_r,n_r,c_r⟩ : NV).len (⟨6,⟨#[]⟩,0,A_r,n_r,c_r⟩ : NV).cap] ∧ PEnd E rr w (.returned (nvA (⟨6,⟨#[]⟩,0,A_r,n_r,c_r⟩ : NV))) W) HEND.out ?_
   rintro W ⟨hb,hE⟩
   obtain ⟨v0,v1,v2,v3,-⟩:=hb.f4
   exact bodyPost_ret (v:=nvA (⟨6,⟨#[]⟩,0,A_r,n_r,c_r⟩ : NV)) (by simp [results,Tryz.results64,go_sem,nvA,v0,v1,v2,v3]) rfl hE
end Go.Proofs.YtbpldfmmlgkfnaaGreatDoor
