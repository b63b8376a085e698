/- The program's parser: programs. Conditions: what classes and blocks do. -/
import Derived.Test.YtbpldfmmlgkfnaaGreatDoorEMemZ
import Derived.Test.YtbpldfmmlgkfnaaGreatDoorEPpE
namespace Go.Proofs.YtbpldfmmlgkfnaaGreatDoor
open Go.RowKit
set_option linter.unusedVariables false
def progZ (E : Env) (f : Nat) (_ a : Nd) (s : PS) : Res:=(wantP E.L E.e ⟨#[109,97,105,110]⟩ s).bind fun _ s => (run E.L E.e f .block s).bind fun b s => if s.i < E.L.length then failP E.L E.e 12 s else .ok (.mk 1 ⟨#[]⟩ 0 (a.kids ++ [b])) ⟨s.i,s.dep,s.many + 1⟩
def progX (E : Env) (f : Nat) (s : PS) : Res:=(run E.L E.e f (.clsL []) s).bind (progZ E f nd0)
theorem parse_progX (L : List Tok) (e f : Nat) {E : Env} (hL : E.L = L) (he : E.e = e) : parseP L e f = (progX E f ⟨0,0,0⟩).bind fun n s => if 600 < s.many then .no 1 0 else .ok n s:=by
 subst hL he
 unfold parseP progX progZ
 simp only [bind_assoc,tx_main,nodeP,tx_nil]
theorem pcls_open {E : Env} {rr : Res} {w : World} {tv uv : ByteArray} {xs : List NV} {S : Nat → Prop} {lo f g : Nat} (ho : rr ≠ .out) (h : PT E rr w (fun t _ ls s => (run E.L E.e g (.clsL ls) s).bind (progZ E f t)) tv uv xs S lo) :
  ∃ g',g' < g ∧ PT E rr w (fun t u ls s => if seesP E.L ⟨#[99,108,97,115,115]⟩ s = true then (fun (t u : Nd) (ls : List Nd) s => (run E.L E.e g' .cls s).bind fun k s => (fun (t _ : Nd) (ls : List Nd) k s => (fun (t _ : Nd) (ls : List Nd) s => (run E.L E.e g' (.clsL ls) s).bind (progZ E f t)) t nd0 (ls ++ [k]) s) t u ls k s) t u ls (stepP s) else (fun (t _ : Nd) (ls : List Nd) s => progZ E f t (ndL ls) s) t u ls s) tv uv xs S lo:=by
 cases g with
 | zero => exact absurd (h.notout (fun t u ls s => rfl)) ho
 | succ g =>
  refine ⟨g,Nat.lt_succ_self _,h.congrL (fun t u ls s _ => ?_)⟩
  simp only [run,tx_class]
  split
  ·simp only [bind_assoc]
  ·rfl
/-- What the loop over classes holds. -/
def PPrg (w : World) (E : Env) (rr : Res) (f gk : Nat) (v : Value) (wr : World) : Prop :=
 Turned w wr (fun b => b = E.Q) ∧ w.heap.size < wr.heap.size ∧ Blk wr w.heap.size 24 #[.int .i64 0,.string ⟨#[]⟩,.int .i64 0,.slice none 0 0] ∧
  ∃ A n c xs tv uv g i,v = .slice A n c ∧ OwnN wr (w.heap.size + 1) (.slice A n c) xs ∧ xs.length ≤ i ∧ i ≤ E.L.length ∧ E.L.length - i ≤ gk ∧ g ≤ f ∧ PT E rr wr (fun (t _ : Nd) ls s => (run E.L E.e g (.clsL ls) s).bind (progZ E f t)) tv uv xs (SR w (.slice A n c)) i

set_option maxRecDepth 100000 in
set_option maxHeartbeats 3200000 in
theorem pprogram_any {f : Nat} (ihK : ∀ g,g ≤ f → PCall g .cls 62) (ihB : PCall f .block 64) {E : Env} {s : PS} {w : World} (h : PAt w E s) (hout : progX E f s ≠ .out) : Calls Tryz.prog 30 #[.pointer (some ⟨E.Q,0,none⟩)] w (PEnd E (progX E f s) w):=by
 have HO0:=Lib.hid hout
 generalize hrr : progX E f s = rr at *
 have hr : rr = (fun (t _ : Nd) ls s => (run E.L E.e f (.clsL ls) s).bind (progZ E f t)) nd0 nd0 [] s:=hrr.symm
 clear hrr hout
 have HQ:=Lib.hid h.old
 have NE : Hid (¬ w.heap.size = E.Q):=by have:=h.old;show ¬ _;omega
 have hfew:=h.few
 obtain ⟨o9,ho9⟩:=oZ
 have hb0:=bl w o9
 have HT:=Lib.hid (Turned.of_below (fun b => b = E.Q) hb0)
 have HX:=zB w
 have HZ:=zN w o9
 have HO:=Lib.hid (OwnN.nil (w.alloc o9) (w.heap.size + 1))
 subst ho9
 have HST : Hid (PT E rr (w.alloc (.cells #[.int .i64 0,.string ⟨#[]⟩,.int .i64 0,.slice none 0 0] 24)) (fun (t _ : Nd) ls s => (run E.L E.e f (.clsL ls) s).bind (progZ E f t)) ByteArray.empty ByteArray.empty [] (SR w (.slice none 0 0)) 0):=PT.below (K:=(fun (t _ : Nd) ls s => (run E.L E.e f (.clsL ls) s).bind (progZ E f t))) ⟨nd0,nd0,[],s,hr,h,rfl,rfl,AllN.nil _ _,Nat.zero_le _⟩ hb0
 clear h hb0 hr
 go_enter Tryz.func30,Tryz.ntmps30
 go_wp2_with fail
 generalize (w.alloc (.cells #[.int .i64 0,.string ⟨#[]⟩,.int .i64 0,.slice none 0 0] 24)) = w1 at *
 go_loopg [3] E.L.length (fun gk v wr => PPrg w E rr f gk v wr)
 case atStart => exact ⟨HT.out,HZ.out,HX.out,_,_,_,_,_,_,f,0,rfl,HO.out,by simp,Nat.zero_le _,by omega,Nat.le_refl _,HST.out.low (Nat.zero_le _)⟩
 case round =>
  clear HT HZ HX HO HST
  obtain ⟨ht,hz,hx,A_r,n_r,c_r,xs_r,tv,uv,g,i,rfl,ho,hl,hi,hgk,hgf,hst⟩:=hrel
  obtain ⟨g2,hg2,hst⟩:=pcls_open HO0.out hst
  have HT:=Lib.hid ht
  have HZ:=Lib.hid hz
  have HX:=Lib.hid hx
  have HO:=Lib.hid ho
  have HL:=Lib.hid hl
  have HI:=Lib.hid hi
  have HST:=Lib.hid hst
  have HGK:=Lib.hid hgk
  clear ht hz hx ho hl hi hst hgk
  go_wp2_with fail
  refine (pt_takes (A:=(fun (t u : Nd) (ls : List Nd) s => (run E.L E.e g2 .cls s).bind fun k s => (fun (t _ : Nd) (ls : List Nd) k s => (fun (t _ : Nd) ls s => (run E.L E.e g2 (.clsL ls) s).bind (progZ E f t)) t nd0 (ls ++ [k]) s) t u ls k s)) (B:=(fun (t _ : Nd) (ls : List Nd) s => progZ E f t (ndL ls) s)) (sr_ne HQ.out) ⟨#[99,108,97,115,115]⟩ HST.out).mono ?_
  rintro e w1 ⟨b9,rfl,ht9,hy9,hn9⟩
  replace HX:=bT HX ht9 NE
  replace HO:=Lib.hid (HO.out.turned ht9 (row_ne HO.out HQ.out))
  replace HZ:=zT HZ ht9
  replace HT:=tT HT ht9
  clear ht9 HST
  cases b9
  ·have HST:=Lib.hid (hn9 rfl)
   clear hy9 hn9
   replace HST : Hid (PT E rr _ (fun (t u : Nd) (ls : List Nd) s => (wantP E.L E.e ⟨#[109,97,105,110]⟩ s).bind fun _ s => (fun (t u : Nd) (ls : List Nd) s => (run E.L E.e f .block s).bind fun b s => (fun t u ls b s => (fun (_ _ : Nd) (ls : List Nd) (s : PS) => if s.i < E.L.length then failP E.L E.e 12 s else Res.ok (.mk 1 ⟨#[]⟩ 0 ls) ⟨s.i,s.dep,s.many + 1⟩) t u (ls ++ [b]) s) t u ls b s) t u ls s) _ _ _ _ _):=HST.out
   go_wp2_with fail
   have HB_k2:=Lib.hid (Blk.new w1 9 #[.string ⟨#[109,97,105,110]⟩])
   have NB_k2:=nE HQ HZ
   have HG_k2 : Hid (w.heap.size < (World.heap w1).size):=HZ.out
   obtain ⟨o9,ho9⟩ : ∃ o : Obj,o = (.cells #[.string ⟨#[109,97,105,110]⟩] 9):=⟨_,rfl⟩
   replace HX:=bA HX o9
   replace HO:=oA HO o9
   replace HST:=Lib.hid (HST.out.alloc o9)
   replace HT:=tA HT o9
   replace HZ:=zA HZ o9
   subst ho9
   go_wp2_with fail
   (try rw [← (show (World.alloc w1 (.cells #[.string ⟨#[109,97,105,110]⟩] 9)).heap.size = _ from World.size_alloc _ _)])
   generalize (World.alloc w1 (.cells #[.string ⟨#[109,97,105,110]⟩] 9)) = w3 at *
   generalize (World.heap w1).size = b_k2 at *
   refine (pt_want (sr_ne HQ.out) (g:=b_k2) _ HB_k2.out.f1.1 NB_k2.out HB_k2.out.lt HST.out).mono ?_
   rintro e w4 ⟨ht9,⟨v9,rfl,rfl,hst9⟩ | ⟨c9,p9,hr9,hc9,rfl⟩⟩
   rotate_left
   ·exact ⟨rfl,HT.out.then ht9,.inr ⟨_,_,hr9,hc9,rfl⟩⟩
   clear HB_k2 NB_k2 HG_k2
   replace HX:=bT HX ht9 NE
   replace HO:=Lib.hid (HO.out.turned ht9 (row_ne HO.out HQ.out))
   replace HZ:=zT HZ ht9
   replace HT:=tT HT ht9
   replace HST:=Lib.hid hst9
   clear ht9 hst9
   replace HST : Hid (PT E rr _ (fun (t u : Nd) (ls : List Nd) s => (run E.L E.e f .block s).bind fun b s => (fun t u ls b s => (fun (_ _ : Nd) (ls : List Nd) (s : PS) => if s.i < E.L.length then failP E.L E.e 12 s else Res.ok (.mk 1 ⟨#[]⟩ 0 ls) ⟨s.i,s.dep,s.many + 1⟩) t u (ls ++ [b]) s) t u ls b s) _ _ _ _ _):=HST.out
   go_wp2_with fail
   refine (pt_call (sr_ne HQ.out) ihB HO0.out (fun b hb => ⟨Nat.lt_of_lt_of_le HZ.out hb,fun e => Nat.lt_irrefl _ (Nat.lt_of_lt_of_le (HO.out.lt _ e).2 hb)⟩) HST.out).mono ?_
   rintro e w5 ⟨ht9,⟨v9,rfl,x_b,rfl,hst9⟩ | ⟨c9,p9,hr9,hc9,rfl⟩⟩
   rotate_left
   ·exact ⟨rfl,HT.out.then ht9,.inr ⟨_,_,hr9,hc9,rfl⟩⟩
   replace HX:=bT HX ht9 NE
   replace HO:=Lib.hid (HO.out.turned ht9 (row_ne HO.out HQ.out))
   replace HZ:=zT HZ ht9
   replace HT:=tT HT ht9
   replace HST:=Lib.hid hst9
   clear ht9 hst9
   replace HST : Hid (PT1 E rr _ (fun t u ls b s => (fun (_ _ : Nd) (ls : List Nd) (s : PS) => if s.i < E.L.length then failP E.L E.e 12 s else Res.ok (.mk 1 ⟨#[]⟩ 0 ls) ⟨s.i,s.dep,s.many + 1⟩) t u (ls ++ [b]) s) _ _ _ _ _ _):=HST.out
   obtain ⟨t9,u9,ls9,n9,s9,k1,k2,k3,k4,k5,k6,k7⟩:=HST.out
   have hk : rr = (fun (_ _ : Nd) (ls : List Nd) (s : PS) => if s.i < E.L.length then failP E.L E.e 12 s else Res.ok (.mk 1 ⟨#[]⟩ 0 ls) ⟨s.i,s.dep,s.many + 1⟩) t9 u9 (ls9 ++ [n9]) s9:=k1
   have HK:=Lib.hid hk
   have HAT0:=Lib.hid k2
   obtain ⟨o9,ho9⟩:=oN x_b
   have HAT:=Lib.hid (k2.alloc o9)
   subst ho9
   have HLS:=Lib.hid k5
   have HIN:=Lib.hid k6
   clear k1 k2 k5 k6 k7 hk
   by_cases hl9 : s9.i < E.L.length
   ·have hl8 : (0 : Int) < ((E.L.length - s9.i : Nat) : Int):=by omega
    have HZ0:=HZ
    obtain ⟨o9,ho9⟩:=oN x_b
    replace HX:=bA HX o9
    replace HO:=oA HO o9
    replace HST:=Lib.hid (HST.out.alloc o9)
    replace HT:=tA HT o9
    replace HZ:=zA HZ o9
    subst ho9
    have LIE:=lN1 w5 x_b
    have BD1 : Hid ((xs_r).length ≤ 1000000):=by have h1:=HL.out;have h2:=HI.out;show _ ≤ _;omega
    have BD2 : Hid ([x_b].length ≤ 1000000):=by show _ ≤ _;simp
    go_wp2_with (at_builtin;refine wpList_joinNd rfl _ _ rfl (w.heap.size + 1) _ _ rfl HO.out (some ⟨(World.heap w5).size,0,none⟩) [x_b] 1 rfl LIE.out BD1.out BD2.out HZ.out ?_;intro A6 n7 c8 w9 hown hgr hpl;have HOWN:=Lib.hid hown;have HGR:=Lib.hid hgr;have HPL:=Lib.hid hpl;clear hown hgr hpl;have HAT2:=Lib.hid (HAT.out.grown HGR.out (fun k e => Nat.lt_of_lt_of_le HQ.out (row_ge HO.out k e)));obtain ⟨A8,c8,-,-,-,hb8⟩:=HAT2.out.lies;obtain ⟨z0,z1,z2,z3,z4,z5,z6,z7,zl⟩:=hb8.f4;clear hb8)
    clear z0 z1 z2 z3 z4 z5 z6 z7 zl
    replace HX:=Lib.hid (HX.out.grown HGR.out (row_nw HO.out))
    replace HZ:=Lib.hid (Nat.lt_of_lt_of_le HZ.out HGR.out.size)
    replace HT:=Lib.hid (HT.out.grown HGR.out (fun k e => .inr (row_ge HO.out k e)))
    replace HST:=Lib.hid (PT1.push (K:=(fun (_ _ : Nd) (ls : List Nd) (s : PS) => if s.i < E.L.length then failP E.L E.e 12 s else Res.ok (.mk 1 ⟨#[]⟩ 0 ls) ⟨s.i,s.dep,s.many + 1⟩)) HST.out HQ.out HO.out HGR.out HPL.out)
    replace HO:=HOWN
    clear LIE HGR HPL HOWN
    refine (pfail_any 12 HAT2.out).mono ?_
    rintro e w9 ⟨rfl,hb9⟩
    exact ⟨rfl,HT.out.then (Turned.of_below _ hb9),.inr ⟨12,_,HK.out.trans (if_pos hl9),by decide,rfl⟩⟩
   ·have hl8 : decide ((0 : Int) < ((E.L.length - s9.i : Nat) : Int)) = false:=by simp;omega
    have HST2 : Hid (PT1 E rr w5 (fun t u ls b s => (fun (t u : Nd) (ls : List Nd) (s : PS) => (fun (t u : Nd) (ls : List Nd) s => (fun (_ _ : Nd) (_ : List Nd) n s => Res.ok n s) t u [] (.mk 1 ((fun _ _ => ⟨#[]⟩) t u) 0 ls) s) t u ls ⟨s.i,s.dep,s.many + 1⟩) t u (ls ++ [b]) s) _ _ _ _ _ 0):=⟨t9,u9,ls9,n9,s9,HK.out.trans (if_neg hl9),PAt.below HAT0.out (Below.refl _ _),k3,k4,HLS.out,HIN.out,Nat.zero_le _⟩
    replace HST:=HST2
    clear HST2
    have HZ0:=HZ
    obtain ⟨o9,ho9⟩:=oN x_b
    replace HX:=bA HX o9
    replace HO:=oA HO o9
    replace HST:=Lib.hid (HST.out.alloc o9)
    replace HT:=tA HT o9
    replace HZ:=zA HZ o9
    subst ho9
    have LIE:=lN1 w5 x_b
    have BD1 : Hid ((xs_r).length ≤ 1000000):=by have h1:=HL.out;have h2:=HI.out;show _ ≤ _;omega
    have BD2 : Hid ([x_b].length ≤ 1000000):=by show _ ≤ _;simp
    go_wp2_with (at_builtin;refine wpList_joinNd rfl _ _ rfl (w.heap.size + 1) _ _ rfl HO.out (some ⟨(World.heap w5).size,0,none⟩) [x_b] 1 rfl LIE.out BD1.out BD2.out HZ.out ?_;intro A10 n11 c12 w13 hown hgr hpl;have HOWN:=Lib.hid hown;have HGR:=Lib.hid hgr;have HPL:=Lib.hid hpl;clear hown hgr hpl;have HAT2:=Lib.hid (HAT.out.grown HGR.out (fun k e => Nat.lt_of_lt_of_le HQ.out (row_ge HO.out k e)));obtain ⟨A8,c8,-,-,-,hb8⟩:=HAT2.out.lies;obtain ⟨z0,z1,z2,z3,z4,z5,z6,z7,zl⟩:=hb8.f4;clear hb8)
    clear z0 z1 z2 z3 z4 z5 z6 z7 zl
    replace HX:=Lib.hid (HX.out.grown HGR.out (row_nw HO.out))
    replace HZ:=Lib.hid (Nat.lt_of_lt_of_le HZ.out HGR.out.size)
    replace HT:=Lib.hid (HT.out.grown HGR.out (fun k e => .inr (row_ge HO.out k e)))
    replace HST:=Lib.hid (PT1.push (K:=(fun (t u : Nd) (ls : List Nd) (s : PS) => (fun (t u : Nd) (ls : List Nd) s => (fun (_ _ : Nd) (_ : List Nd) n s => Res.ok n s) t u [] (.mk 1 ((fun _ _ => ⟨#[]⟩) t u) 0 ls) s) t u ls ⟨s.i,s.dep,s.many + 1⟩)) HST.out HQ.out HO.out HGR.out HPL.out)
    replace HO:=HOWN
    clear LIE HGR HPL HOWN
    refine (pt_node (K:=(fun (t u : Nd) (ls : List Nd) s => (fun (_ _ : Nd) (_ : List Nd) n s => Res.ok n s) t u [] (.mk 1 ((fun _ _ => ⟨#[]⟩) t u) 0 ls) s)) (sr_ne HQ.out) 1 _ _ _ _ HST.out).mono ?_
    rintro e w14 ⟨rfl,ht9,hst9⟩
    replace HX:=bT HX ht9 NE
    replace HO:=Lib.hid (HO.out.turned ht9 (row_ne HO.out HQ.out))
    replace HZ:=zT HZ ht9
    replace HT:=tT HT ht9
    replace HST:=Lib.hid hst9
    clear ht9 hst9
    replace HST:=Lib.hid (PT.made (K:=(fun (_ _ : Nd) (_ : List Nd) n s => Res.ok n s)) (S':=SR w (.slice none 0 0)) (fun _ _ => ⟨#[]⟩) (fun _ _ _ _ => rfl) HO.out (fun b h => ⟨h.1,fun e => by cases e⟩) (fun k hk => ⟨row_gt HO.out k hk,fun e => by cases e⟩) HST.out)
    clear HO
    have HO:=Lib.hid (OwnN.nil w14 (w.heap.size + 1))
    obtain ⟨u0,u1,u2,u3,g0,g1,g2,g3,gl⟩:=HX.out.f4
    go_wp2_with fail
    clear u0 u1 u2 u3 g0 g1 g2 g3 gl
    have HEND:=Lib.hid (pt_end (x:=(⟨1,⟨#[]⟩,0,A10,n11,c12⟩ : NV)) HQ.out HT.out HX.out (fun b h => h.1) HST.out rfl)
    refine open_post (fun W => Blk W w.heap.size 24 #[.int .i64 (⟨1,⟨#[]⟩,0,A10,n11,c12⟩ : NV).kind,.string (⟨1,⟨#[]⟩,0,A10,n11,c12⟩ : NV).text,.int .i64 (⟨1,⟨#[]⟩,0,A10,n11,c12⟩ : NV).num,.slice (⟨1,⟨#[]⟩,0,A10,n11,c12⟩ : NV).a (⟨1,⟨#[]⟩,0,A10,n11,c12⟩ : NV).len (⟨1,⟨#[]⟩,0,A10,n11,c12⟩ : NV).cap] ∧ PEnd E rr w (.returned (nvA (⟨1,⟨#[]⟩,0,A10,n11,c12⟩ : NV))) W) HEND.out ?_
    rintro W ⟨hb,hE⟩
    obtain ⟨v0,v1,v2,v3,-⟩:=hb.f4
    exact bodyPost_ret (v:=nvA (⟨1,⟨#[]⟩,0,A10,n11,c12⟩ : NV)) (by simp [results,Tryz.results30,go_sem,nvA,v0,v1,v2,v3]) rfl hE
  ·have HST:=Lib.hid (hy9 rfl)
   clear hy9 hn9
   replace HST : Hid (PT E rr _ (fun (t u : Nd) (ls : List Nd) s => (run E.L E.e g2 .cls s).bind fun k s => (fun (t _ : Nd) (ls : List Nd) k s => (fun (t _ : Nd) ls s => (run E.L E.e g2 (.clsL ls) s).bind (progZ E f t)) t nd0 (ls ++ [k]) s) t u ls k s) _ _ _ _ _):=HST.out
   go_wp2_with fail
   refine (pt_callS (sr_ne HQ.out) (ihK g2 (by omega)) HO0.out (fun b hb => ⟨Nat.lt_of_lt_of_le HZ.out hb,fun e => Nat.lt_irrefl _ (Nat.lt_of_lt_of_le (HO.out.lt _ e).2 hb)⟩) HST.out).mono ?_
   rintro e w15 ⟨ht9,⟨v9,rfl,x_k,rfl,hst9⟩ | ⟨c9,p9,hr9,hc9,rfl⟩⟩
   rotate_left
   ·exact ⟨rfl,HT.out.then ht9,.inr ⟨_,_,hr9,hc9,rfl⟩⟩
   replace HX:=bT HX ht9 NE
   replace HO:=Lib.hid (HO.out.turned ht9 (row_ne HO.out HQ.out))
   replace HZ:=zT HZ ht9
   replace HT:=tT HT ht9
   replace HST:=Lib.hid hst9
   clear ht9 hst9
   have HI2:=Lib.hid (show _ ≤ E.L.length from by obtain ⟨t,u,ls,n,s,h1,h2,h3,h4,h5,h6,hl⟩:=HST.out;exact Nat.le_trans hl h2.le)
   replace HST : Hid (PT1 E rr _ (fun (t u : Nd) (ls : List Nd) k s => (fun (t u : Nd) (ls : List Nd) s => (fun (t _ : Nd) ls s => (run E.L E.e g2 (.clsL ls) s).bind (progZ E f t)) t nd0 ls s) t u (ls ++ [k]) s) _ _ _ _ _ _):=HST.out
   have HZ0:=HZ
   obtain ⟨o9,ho9⟩:=oN x_k
   replace HX:=bA HX o9
   replace HO:=oA HO o9
   replace HST:=Lib.hid (HST.out.alloc o9)
   replace HT:=tA HT o9
   replace HZ:=zA HZ o9
   subst ho9
   have LIE:=lN1 w15 x_k
   have BD1 : Hid ((xs_r).length ≤ 1000000):=by have h1:=HL.out;have h2:=HI.out;show _ ≤ _;omega
   have BD2 : Hid ([x_k].length ≤ 1000000):=by show _ ≤ _;simp
   go_wp2_with (at_builtin;refine wpList_joinNd rfl _ _ rfl (w.heap.size + 1) _ _ rfl HO.out (some ⟨(World.heap w15).size,0,none⟩) [x_k] 1 rfl LIE.out BD1.out BD2.out HZ.out ?_;intro A16 n17 c18 w19 hown hgr hpl;have HOWN:=Lib.hid hown;have HGR:=Lib.hid hgr;have HPL:=Lib.hid hpl;clear hown hgr hpl)
   replace HX:=Lib.hid (HX.out.grown HGR.out (row_nw HO.out))
   replace HZ:=Lib.hid (Nat.lt_of_lt_of_le HZ.out HGR.out.size)
   replace HT:=Lib.hid (HT.out.grown HGR.out (fun k e => .inr (row_ge HO.out k e)))
   replace HST:=Lib.hid (PT1.push (K:=(fun (t u : Nd) (ls : List Nd) s => (fun (t _ : Nd) ls s => (run E.L E.e g2 (.clsL ls) s).bind (progZ E f t)) t nd0 ls s)) HST.out HQ.out HO.out HGR.out HPL.out)
   replace HO:=HOWN
   clear LIE HGR HPL HOWN
   have hi2:=HI2.out
   have hl9:=HL.out
   have hg9:=HGK.out
   have hstr : str .cls = 1:=rfl
   rw [hstr] at hi2
   go_wp2_with fail
   go_roundg (gk - 1)
   case measure => omega
   case rel => exact ⟨HT.out,HZ.out,HX.out,_,_,_,_,_,_,g2,i + 1 + 1,rfl,HO.out,by simp;omega,by omega,by omega,by omega,HST.out⟩
end Go.Proofs.YtbpldfmmlgkfnaaGreatDoor
