/- The program's parser: lists in parentheses; parameters. Conditions: what expressions do. -/
import Derived.Test.YtbpldfmmlgkfnaaGreatDoorEMemZ
import Derived.Test.YtbpldfmmlgkfnaaGreatDoorEPpH
namespace Go.Proofs.YtbpldfmmlgkfnaaGreatDoor
open Go.RowKit
set_option linter.unusedVariables false
theorem pt_callW {E : Env} {rr : Res} {w : World} {tv uv : ByteArray} {xs : List NV} {S : Nat → Prop} {lo : Nat} {K : Nd → Nd → List Nd → Nd → PS → Res} {R : PS → Res} {fn : FuncId} {args : Array Value} (d : Nat) (hS : ∀ b,S b → ¬ b = E.Q) (ih : ∀ (s : PS),PAt w E s → R s ≠ .out → Calls Tryz.prog fn args w (PEnd E (R s) w)) (hm : ∀ s n s',R s = .ok n s' → s.i + d ≤ s'.i) (ho : rr ≠ .out) (hsub : ∀ b,w.heap.size ≤ b → S b) (h : PT E rr w (fun t u ls s => (R s).bind fun n s => K t u ls n s) tv uv xs S lo) :
  Calls Tryz.prog fn args w (Way E rr w fun v w' => ∃ x,v = nvA x ∧ PT1 E rr w' K tv uv xs x S (lo + d)):=by
 obtain ⟨t,u,ls,s,h1,h2,h3,h4,h5,hl⟩:=h
 have ho2 : R s ≠ .out:=fun hx => ho (h1.trans (bind_out hx))
 refine (ih s h2 ho2).mono ?_
 rintro e w' ⟨ht,⟨v,rfl,n,s',x,hr,rfl,hs,hi⟩ | ⟨c,p,hr,hc,rfl⟩⟩
 ·exact ⟨ht,.inl ⟨_,rfl,x,rfl,t,u,ls,n,s',h1.trans (bind_ok hr),hs,h3,h4,h5.turned ht hS,hi.weak (fun b _ hb => hsub b hb),Nat.le_trans (Nat.add_le_add_right hl _) (hm _ _ _ hr)⟩⟩
 ·exact ⟨ht,.inr ⟨c,p,h1.trans (bind_no hr),hc,rfl⟩⟩
def finL (E : Env) (a : Nd) (s : PS) : Res:=(wantP E.L E.e ⟨#[41]⟩ s).bind fun _ s => .ok a s
/-- What a list leaves: a row of its own. -/
def LEnd (E : Env) (rr : Res) (w : World) : Ending → World → Prop:=Way E rr w (fun v w' => ∃ n s A k c xs,rr = .ok n s ∧ v = .slice A k c ∧ PAt w' E s ∧ OwnN w' (w.heap.size + 1) (.slice A k c) xs ∧ AllN w' (SR w (.slice A k c)) xs n.kids ∧ xs.length ≤ 4000 ∧ w.heap.size < w'.heap.size)
theorem list_end {w W : World} {E : Env} {rr : Res} {tv uv : ByteArray} {xs : List NV} {lo : Nat} {A : Option Addr} {k c : Nat} (ht : Turned w W (fun b => b = E.Q)) (ho : OwnN W (w.heap.size + 1) (.slice A k c) xs) (hl : xs.length ≤ 4000) (hz : w.heap.size < W.heap.size) (h : PT E rr W (fun _ _ ls s => .ok (ndL ls) s) tv uv xs (SR w (.slice A k c)) lo) : LEnd E rr w (.returned (.slice A k c)) W:=by
 obtain ⟨t,u,ls,s,h1,h2,h3,h4,h5,-⟩:=h
 exact ⟨ht,.inl ⟨_,rfl,ndL ls,s,A,k,c,xs,h1,rfl,h2,ho,h5,hl,hz⟩⟩
def argP (E : Env) (s : PS) : Res:=(nameP E.L E.e s).bind fun t s => .ok (.mk 5 t.text 0 []) ⟨s.i,s.dep,s.many + 1⟩
theorem mo_arg (E : Env) (s : PS) (n : Nd) (s' : PS) (h : argP E s = .ok n s') : s.i + 1 ≤ s'.i:=by
 have hm : Mo (s.i + 1) (argP E s):=by
  unfold argP
  exact mo_bind (lo:=s.i + 1) mo_name fun t s1 h1 => mo_ok h1
 exact hm n s' h
def oneE (E : Env) (g : Nat) (s : PS) : Res:=run E.L E.e g .expr s
theorem mo_oneE (E : Env) (g : Nat) (s : PS) (n : Nd) (s' : PS) (h : oneE E g s = .ok n s') : s.i + 1 ≤ s'.i:=run_mono E.L E.e g .expr s n s' h
def oneA (E : Env) (_ : Nat) (s : PS) : Res:=argP E s
theorem mo_oneA (E : Env) (g : Nat) (s : PS) (n : Nd) (s' : PS) (h : oneA E g s = .ok n s') : s.i + 1 ≤ s'.i:=mo_arg E s n s' h

def listE (E : Env) (f : Nat) (s : PS) : Res:=(wantP E.L E.e ⟨#[40]⟩ s).bind fun _ s => (if seesP E.L ⟨#[41]⟩ s = true then .ok (ndL []) s else run E.L E.e f (.argsL []) s).bind (finL E)
/-- Behind an element. -/
def KCE (E : Env) (g : Nat) (_ _ : Nd) (ls : List Nd) (s : PS) : Res:=if seesP E.L ⟨#[44]⟩ s = true then (fun (_ _ : Nd) (ls : List Nd) s => (run E.L E.e g (.argsL ls) s).bind (finL E)) nd0 nd0 ls (stepP s) else (fun (_ _ : Nd) (ls : List Nd) s => finL E (ndL ls) s) nd0 nd0 ls s
theorem argsL_openE {E : Env} {rr : Res} {w : World} {tv uv : ByteArray} {xs : List NV} {S : Nat → Prop} {lo g : Nat} (ho : rr ≠ .out) (h : PT E rr w (fun _ _ ls s => (run E.L E.e g (.argsL ls) s).bind (finL E)) tv uv xs S lo) : ∃ g',g' < g ∧ PT E rr w (fun t u ls s => (oneE E g' s).bind fun k s => (fun t u ls k s => KCE E g' t u (ls ++ [k]) s) t u ls k s) tv uv xs S lo:=by
 cases g with
 | zero => exact absurd (h.notout (fun t u ls s => rfl)) ho
 | succ g =>
  refine ⟨g,Nat.lt_succ_self _,h.congrL (fun t u ls s _ => ?_)⟩
  simp only [run,tx_com,oneE,bind_assoc,KCE]
  congr 1
  funext k s
  split <;> rfl
/-- What the loop over a list holds. -/
def LIE (w : World) (E : Env) (rr : Res) (f gk : Nat) (v : Value) (wr : World) : Prop :=
 Turned w wr (fun b => b = E.Q) ∧ w.heap.size < wr.heap.size ∧ ∃ A n c xs tv uv g i,v = .slice A n c ∧ OwnN wr (w.heap.size + 1) (.slice A n c) xs ∧ xs.length ≤ i ∧ i ≤ E.L.length ∧ E.L.length - i ≤ gk ∧ g ≤ f ∧ PT E rr wr (KCE E g) tv uv xs (SR w (.slice A n c)) i
set_option maxRecDepth 100000 in
set_option maxHeartbeats 3200000 in
theorem plist_E {f : Nat} (ihX : ∀ g,g ≤ f → PCall g .expr 108) {E : Env} {s : PS} {w : World} (h : PAt w E s) (hout : listE E f s ≠ .out) : Calls Tryz.prog 91 #[.pointer (some ⟨E.Q,0,none⟩),.func (.func 108) #[.pointer (some ⟨E.Q,0,none⟩)] #[]] w (LEnd E (listE E f s) w):=by
 have HO0:=Lib.hid hout
 generalize hrr : listE E f s = rr at *
 have hr : rr = (fun (_ _ : Nd) (_ : List Nd) s => (wantP E.L E.e ⟨#[40]⟩ s).bind fun _ s => (fun (_ _ : Nd) (_ : List Nd) s => (if seesP E.L ⟨#[41]⟩ s = true then .ok (ndL []) s else run E.L E.e f (.argsL []) s).bind (finL E)) nd0 nd0 [] s) nd0 nd0 [] s:=hrr.symm
 clear hrr hout
 have HQ:=Lib.hid h.old
 have NE : Hid (¬ w.heap.size = E.Q):=by have:=h.old;show ¬ _;omega
 have hfew:=h.few
 have hb0:=bl w (.cells #[.string ⟨#[40]⟩] 9)
 have HT:=Lib.hid (Turned.of_below (fun b => b = E.Q) hb0)
 have HX:=Lib.hid (Blk.new w 9 #[.string ⟨#[40]⟩])
 have HZ:=zN w (.cells #[.string ⟨#[40]⟩] 9)
 have HO:=Lib.hid (OwnN.nil (w.alloc (.cells #[.string ⟨#[40]⟩] 9)) (w.heap.size + 1))
 have HST : Hid (PT E rr (w.alloc (.cells #[.string ⟨#[40]⟩] 9)) (fun (_ _ : Nd) (_ : List Nd) s => (wantP E.L E.e ⟨#[40]⟩ s).bind fun _ s => (fun (_ _ : Nd) (_ : List Nd) s => (if seesP E.L ⟨#[41]⟩ s = true then .ok (ndL []) s else run E.L E.e f (.argsL []) s).bind (finL E)) nd0 nd0 [] s) ByteArray.empty ByteArray.empty [] (SR w (.slice none 0 0)) 0):=PT.below ⟨nd0,nd0,[],s,hr,h,rfl,rfl,AllN.nil _ _,Nat.zero_le _⟩ hb0
 clear h hb0 hr
 go_enter Tryz.func91,Tryz.ntmps91
 go_wp2_with fail
 generalize (w.alloc (.cells #[.string ⟨#[40]⟩] 9)) = w1 at *
 refine (pt_want (sr_ne HQ.out) (g:=w.heap.size) _ HX.out.f1.1 NE.out HX.out.lt HST.out).mono ?_
 rintro e w2 ⟨ht9,⟨v9,rfl,rfl,hst9⟩ | ⟨c9,p9,hr9,hc9,rfl⟩⟩
 rotate_left
 ·exact ⟨rfl,HT.out.then ht9,.inr ⟨_,_,hr9,hc9,rfl⟩⟩
 replace HX:=bT HX ht9 NE
 replace HO:=Lib.hid (HO.out.turned ht9 (row_ne HO.out HQ.out))
 replace HZ:=zT HZ ht9
 replace HT:=tT HT ht9
 replace HST:=Lib.hid hst9
 clear ht9 hst9
 replace HST:=Lib.hid (PT.nil (K':=fun t u ls s => if seesP E.L ⟨#[41]⟩ s = true then (fun (_ _ : Nd) (ls : List Nd) s => finL E (ndL ls) s) t u ls s else (fun (_ _ : Nd) (ls : List Nd) s => (run E.L E.e f (.argsL ls) s).bind (finL E)) t u ls s) HST.out (fun t u s => by (try dsimp only);split <;> rfl))
 go_wp2_with fail
 refine (pt_sees (A:=(fun (_ _ : Nd) (ls : List Nd) s => finL E (ndL ls) s)) (B:=(fun (_ _ : Nd) (ls : List Nd) s => (run E.L E.e f (.argsL ls) s).bind (finL E))) (sr_ne HQ.out) ⟨#[41]⟩ HST.out).mono ?_
 rintro e w11 ⟨b9,rfl,ht9,hy9,hn9⟩
 replace HX:=bT HX ht9 NE
 replace HO:=Lib.hid (HO.out.turned ht9 (row_ne HO.out HQ.out))
 replace HZ:=zT HZ ht9
 replace HT:=tT HT ht9
 clear ht9 HST
 cases b9
 ·have HST:=Lib.hid (hn9 rfl)
  clear hy9 hn9
  obtain ⟨g1,hg1,hst⟩:=argsL_openE HO0.out HST.out
  replace HST:=Lib.hid hst
  clear hst
  go_wp2_with fail
  refine (pt_callW 1 (sr_ne HQ.out) (R:=oneE E g1) (fun s9 hs9 ho9 => ihX g1 (by omega) E s9 _ hs9 ho9) (mo_oneE E g1) HO0.out (fun b hb => ⟨Nat.lt_of_lt_of_le HZ.out hb,fun e => Nat.lt_irrefl _ (Nat.lt_of_lt_of_le (HO.out.lt _ e).2 hb)⟩) HST.out).mono ?_
  rintro e w12 ⟨ht9,⟨v9,rfl,x_k,rfl,hst9⟩ | ⟨c9,p9,hr9,hc9,rfl⟩⟩
  rotate_left
  ·exact ⟨rfl,HT.out.then ht9,.inr ⟨_,_,hr9,hc9,rfl⟩⟩
  replace HX:=bT HX ht9 NE
  replace HO:=Lib.hid (HO.out.turned ht9 (row_ne HO.out HQ.out))
  replace HZ:=zT HZ ht9
  replace HT:=tT HT ht9
  replace HST:=Lib.hid hst9
  clear ht9 hst9
  replace HST : Hid (PT1 E rr _ (fun t u ls k s => KCE E g1 t u (ls ++ [k]) s) _ _ _ _ _ _):=HST.out
  have HI2:=Lib.hid (show _ ≤ E.L.length from by obtain ⟨t,u,ls,n,s,h1,h2,h3,h4,h5,h6,hl⟩:=HST.out;exact Nat.le_trans hl h2.le)
  have HZ0:=HZ
  obtain ⟨oz9,hz9⟩:=oN x_k
  replace HX:=bA HX oz9
  replace HO:=oA HO oz9
  replace HST:=Lib.hid (HST.out.alloc oz9)
  replace HT:=tA HT oz9
  replace HZ:=zA HZ oz9
  subst hz9
  have LIE:=lN1 w12 x_k
  have BD1 : Hid ((([] : List NV)).length ≤ 1000000):=by show _ ≤ _;simp
  have BD2 : Hid ([x_k].length ≤ 1000000):=by show _ ≤ _;simp
  go_wp2_with (at_builtin;refine wpList_joinNd rfl _ _ rfl (w.heap.size + 1) _ _ rfl HO.out (some ⟨(World.heap w12).size,0,none⟩) [x_k] 1 rfl LIE.out BD1.out BD2.out HZ.out ?_;intro A13 n14 c15 w16 hown hgr hpl;have HOWN:=Lib.hid hown;have HGR:=Lib.hid hgr;have HPL:=Lib.hid hpl;clear hown hgr hpl)
  replace HX:=Lib.hid (HX.out.grown HGR.out (row_nw HO.out))
  replace HZ:=Lib.hid (Nat.lt_of_lt_of_le HZ.out HGR.out.size)
  replace HT:=Lib.hid (HT.out.grown HGR.out (fun k e => .inr (row_ge HO.out k e)))
  replace HST:=Lib.hid (PT1.push (K:=(KCE E g1)) HST.out HQ.out HO.out HGR.out HPL.out)
  replace HO:=HOWN
  clear LIE HGR HPL HOWN
  go_wp2_with fail
  go_loopg [5] E.L.length (fun gk v wr => LIE w E rr f gk v wr)
  case atStart => exact ⟨HT.out,HZ.out,_,_,_,_,_,_,g1,0 + 1 + 1,rfl,HO.out,by simp,HI2.out,by omega,Nat.le_of_lt hg1,HST.out⟩
  case round =>
   clear HT HZ HX HO HST HI2
   obtain ⟨ht,hz,A_r,n_r,c_r,xs_r,tv,uv,g,i,rfl,ho,hl,hi,hgk,hgf,hst⟩:=hrel
   have HT:=Lib.hid ht
   have HZ:=Lib.hid hz
   have HO:=Lib.hid ho
   have HL:=Lib.hid hl
   have HI:=Lib.hid hi
   have HGK:=Lib.hid hgk
   have HST:=Lib.hid hst
   clear ht hz ho hl hi hgk hst
   have HX : Hid (Blk wr w.heap.size 9 #[.string ⟨#[40]⟩] ∨ True):=.inr True.intro
   go_wp2_with fail
   refine (pt_takes (A:=(fun (_ _ : Nd) (ls : List Nd) s => (run E.L E.e g (.argsL ls) s).bind (finL E))) (B:=(fun (_ _ : Nd) (ls : List Nd) s => finL E (ndL ls) s)) (sr_ne HQ.out) ⟨#[44]⟩ HST.out).mono ?_
   rintro e w17 ⟨b9,rfl,ht9,hy9,hn9⟩
   replace HO:=Lib.hid (HO.out.turned ht9 (row_ne HO.out HQ.out))
   replace HZ:=zT HZ ht9
   replace HT:=tT HT ht9
   clear ht9 HST
   cases b9
   ·have HST:=Lib.hid (hn9 rfl)
    clear hy9 hn9
    have HL8 : Hid (xs_r.length ≤ 4000):=by have h1:=HL.out;have h2:=HI.out;show _ ≤ _;omega
    replace HST : Hid (PT E rr _ (fun (t u : Nd) (ls : List Nd) s => (wantP E.L E.e ⟨#[41]⟩ s).bind fun _ s => (fun (_ _ : Nd) (ls : List Nd) s => Res.ok (ndL ls) s) t u ls s) _ _ _ _ _):=HST.out
    go_wp2_with fail
    have HB_k18:=Lib.hid (Blk.new w17 9 #[.string ⟨#[41]⟩])
    have NB_k18:=nE HQ HZ
    have HG_k18 : Hid (w.heap.size < (World.heap w17).size):=HZ.out
    replace HO:=oA HO (.cells #[.string ⟨#[41]⟩] 9)
    replace HST:=Lib.hid (HST.out.alloc (.cells #[.string ⟨#[41]⟩] 9))
    replace HT:=tA HT (.cells #[.string ⟨#[41]⟩] 9)
    replace HZ:=zA HZ (.cells #[.string ⟨#[41]⟩] 9)
    go_wp2_with fail
    (try rw [← (show (World.alloc w17 (.cells #[.string ⟨#[41]⟩] 9)).heap.size = _ from World.size_alloc _ _)])
    generalize (World.alloc w17 (.cells #[.string ⟨#[41]⟩] 9)) = w19 at *
    generalize (World.heap w17).size = b_k18 at *
    refine (pt_want (sr_ne HQ.out) (g:=b_k18) _ HB_k18.out.f1.1 NB_k18.out HB_k18.out.lt HST.out).mono ?_
    rintro e w20 ⟨ht9,⟨v9,rfl,rfl,hst9⟩ | ⟨c9,p9,hr9,hc9,rfl⟩⟩
    rotate_left
    ·exact ⟨rfl,HT.out.then ht9,.inr ⟨_,_,hr9,hc9,rfl⟩⟩
    clear HB_k18 NB_k18 HG_k18
    replace HO:=Lib.hid (HO.out.turned ht9 (row_ne HO.out HQ.out))
    replace HZ:=zT HZ ht9
    replace HT:=tT HT ht9
    replace HST:=Lib.hid hst9
    clear ht9 hst9
    go_wp2_with fail
    have HEND:=Lib.hid (list_end HT.out HO.out HL8.out HZ.out HST.out)
    exact bodyPost_ret (v:=.slice A_r n_r c_r) (by simp [results,Tryz.results91,go_sem]) rfl HEND.out
   ·have HST:=Lib.hid (hy9 rfl)
    clear hy9 hn9
    obtain ⟨g2,hg2,hst⟩:=argsL_openE HO0.out HST.out
    replace HST:=Lib.hid hst
    clear hst
    go_wp2_with fail
    refine (pt_callW 1 (sr_ne HQ.out) (R:=oneE E g2) (fun s9 hs9 ho9 => ihX g2 (by omega) E s9 _ hs9 ho9) (mo_oneE E g2) HO0.out (fun b hb => ⟨Nat.lt_of_lt_of_le HZ.out hb,fun e => Nat.lt_irrefl _ (Nat.lt_of_lt_of_le (HO.out.lt _ e).2 hb)⟩) HST.out).mono ?_
    rintro e w21 ⟨ht9,⟨v9,rfl,x_j,rfl,hst9⟩ | ⟨c9,p9,hr9,hc9,rfl⟩⟩
    rotate_left
    ·exact ⟨rfl,HT.out.then ht9,.inr ⟨_,_,hr9,hc9,rfl⟩⟩
    replace HO:=Lib.hid (HO.out.turned ht9 (row_ne HO.out HQ.out))
    replace HZ:=zT HZ ht9
    replace HT:=tT HT ht9
    replace HST:=Lib.hid hst9
    clear ht9 hst9
    replace HST : Hid (PT1 E rr _ (fun t u ls k s => KCE E g2 t u (ls ++ [k]) s) _ _ _ _ _ _):=HST.out
    have HI2:=Lib.hid (show _ ≤ E.L.length from by obtain ⟨t,u,ls,n,s,h1,h2,h3,h4,h5,h6,hl⟩:=HST.out;exact Nat.le_trans hl h2.le)
    have HZ0:=HZ
    obtain ⟨oz9,hz9⟩:=oN x_j
    replace HO:=oA HO oz9
    replace HST:=Lib.hid (HST.out.alloc oz9)
    replace HT:=tA HT oz9
    replace HZ:=zA HZ oz9
    subst hz9
    have LIE:=lN1 w21 x_j
    have BD1 : Hid ((xs_r).length ≤ 1000000):=by have h1:=HL.out;have h2:=HI.out;show _ ≤ _;omega
    have BD2 : Hid ([x_j].length ≤ 1000000):=by show _ ≤ _;simp
    go_wp2_with (at_builtin;refine wpList_joinNd rfl _ _ rfl (w.heap.size + 1) _ _ rfl HO.out (some ⟨(World.heap w21).size,0,none⟩) [x_j] 1 rfl LIE.out BD1.out BD2.out HZ.out ?_;intro A22 n23 c24 w25 hown hgr hpl;have HOWN:=Lib.hid hown;have HGR:=Lib.hid hgr;have HPL:=Lib.hid hpl;clear hown hgr hpl)
    replace HZ:=Lib.hid (Nat.lt_of_lt_of_le HZ.out HGR.out.size)
    replace HT:=Lib.hid (HT.out.grown HGR.out (fun k e => .inr (row_ge HO.out k e)))
    replace HST:=Lib.hid (PT1.push (K:=(KCE E g2)) HST.out HQ.out HO.out HGR.out HPL.out)
    replace HO:=HOWN
    clear LIE HGR HPL HOWN
    have hi2:=HI2.out
    have hl9:=HL.out
    have hg9:=HGK.out
    go_wp2_with fail
    go_roundg (gk - 1)
    case measure => omega
    case rel => exact ⟨HT.out,HZ.out,_,_,_,_,_,_,g2,i + 1 + 1,rfl,HO.out,by simp;omega,by omega,by omega,by omega,HST.out⟩
 ·have HST:=Lib.hid (hy9 rfl).1
  clear hy9 hn9
  have HL8 : Hid (([] : List NV).length ≤ 4000):=by show _ ≤ _;simp
  replace HST : Hid (PT E rr _ (fun (t u : Nd) (ls : List Nd) s => (wantP E.L E.e ⟨#[41]⟩ s).bind fun _ s => (fun (_ _ : Nd) (ls : List Nd) s => Res.ok (ndL ls) s) t u ls s) _ _ _ _ _):=HST.out
  go_wp2_with fail
  have HB_k26:=Lib.hid (Blk.new w11 9 #[.string ⟨#[41]⟩])
  have NB_k26:=nE HQ HZ
  have HG_k26 : Hid (w.heap.size < (World.heap w11).size):=HZ.out
  replace HX:=bA HX (.cells #[.string ⟨#[41]⟩] 9)
  replace HO:=oA HO (.cells #[.string ⟨#[41]⟩] 9)
  replace HST:=Lib.hid (HST.out.alloc (.cells #[.string ⟨#[41]⟩] 9))
  replace HT:=tA HT (.cells #[.string ⟨#[41]⟩] 9)
  replace HZ:=zA HZ (.cells #[.string ⟨#[41]⟩] 9)
  go_wp2_with fail
  (try rw [← (show (World.alloc w11 (.cells #[.string ⟨#[41]⟩] 9)).heap.size = _ from World.size_alloc _ _)])
  generalize (World.alloc w11 (.cells #[.string ⟨#[41]⟩] 9)) = w27 at *
  generalize (World.heap w11).size = b_k26 at *
  refine (pt_want (sr_ne HQ.out) (g:=b_k26) _ HB_k26.out.f1.1 NB_k26.out HB_k26.out.lt HST.out).mono ?_
  rintro e w28 ⟨ht9,⟨v9,rfl,rfl,hst9⟩ | ⟨c9,p9,hr9,hc9,rfl⟩⟩
  rotate_left
  ·exact ⟨rfl,HT.out.then ht9,.inr ⟨_,_,hr9,hc9,rfl⟩⟩
  clear HB_k26 NB_k26 HG_k26
  replace HX:=bT HX ht9 NE
  replace HO:=Lib.hid (HO.out.turned ht9 (row_ne HO.out HQ.out))
  replace HZ:=zT HZ ht9
  replace HT:=tT HT ht9
  replace HST:=Lib.hid hst9
  clear ht9 hst9
  go_wp2_with fail
  have HEND:=Lib.hid (list_end HT.out HO.out HL8.out HZ.out HST.out)
  exact bodyPost_ret (v:=.slice none 0 0) (by simp [results,Tryz.results91,go_sem]) rfl HEND.out
set_option maxRecDepth 100000 in
set_option maxHeartbeats 3200000 in
theorem parg_any {E : Env} {s : PS} {w : World} {B : Nat} (hB : Blk w B 89 #[.pointer (some ⟨E.Q,0,none⟩)]) (hBQ : B ≠ E.Q) (h : PAt w E s) : Calls Tryz.prog 92 #[.pointer (some ⟨B,0,none⟩)] w (PEnd E (argP E s) w):=by
 have HBB:=Lib.hid hB
 have NBB : Hid (¬ B = E.Q):=hBQ
 clear hB hBQ
 have hout : argP E s ≠ .out:=fun hx => by
  unfold argP nameP at hx
  split at hx <;> cases hx
 have HO0:=Lib.hid hout
 generalize hrr : argP E s = rr at *
 have hr : rr = (fun (_ u : Nd) (ls : List Nd) s => (nameP E.L E.e s).bind fun t s => (fun (t u : Nd) (ls : List Nd) (s : PS) => (fun (t u : Nd) (ls : List Nd) (s : PS) => (fun (t _ : Nd) (_ : List Nd) (s : PS) => Res.ok (.mk 5 t.text 0 []) s) t u ls s) t u ls ⟨s.i,s.dep,s.many + 1⟩) t u ls s) nd0 nd0 [] s:=hrr.symm
 clear hrr hout
 have HQ:=Lib.hid h.old
 have NE : Hid (¬ w.heap.size = E.Q):=by have:=h.old;show ¬ _;omega
 have hfew:=h.few
 obtain ⟨oz9,hz9⟩:=oZ
 have hb0:=bl w oz9
 have HT:=Lib.hid (Turned.of_below (fun b => b = E.Q) hb0)
 have HX:=zB w
 have HZ:=zN w oz9
 have HO:=Lib.hid (OwnN.nil (w.alloc oz9) (w.heap.size + 1))
 subst hz9
 have HST : Hid (PT E rr (w.alloc (.cells #[.int .i64 0,.string ⟨#[]⟩,.int .i64 0,.slice none 0 0] 24)) (fun (_ u : Nd) (ls : List Nd) s => (nameP E.L E.e s).bind fun t s => (fun (t u : Nd) (ls : List Nd) (s : PS) => (fun (t u : Nd) (ls : List Nd) (s : PS) => (fun (t _ : Nd) (_ : List Nd) (s : PS) => Res.ok (.mk 5 t.text 0 []) s) t u ls s) t u ls ⟨s.i,s.dep,s.many + 1⟩) t u ls s) ByteArray.empty ByteArray.empty [] (SR w (.slice none 0 0)) 0):=PT.below (K:=(fun (_ u : Nd) (ls : List Nd) s => (nameP E.L E.e s).bind fun t s => (fun (t u : Nd) (ls : List Nd) (s : PS) => (fun (t u : Nd) (ls : List Nd) (s : PS) => (fun (t _ : Nd) (_ : List Nd) (s : PS) => Res.ok (.mk 5 t.text 0 []) s) t u ls s) t u ls ⟨s.i,s.dep,s.many + 1⟩) t u ls s)) ⟨nd0,nd0,[],s,hr,h,rfl,rfl,AllN.nil _ _,Nat.zero_le _⟩ hb0
 clear h hb0 hr
 go_enter Tryz.func92,Tryz.ntmps92
 go_wp2_with fail
 generalize (w.alloc (.cells #[.int .i64 0,.string ⟨#[]⟩,.int .i64 0,.slice none 0 0] 24)) = w1 at *
 replace HX : Hid (Blk w1.drew w.heap.size 24 #[.int .i64 0,.string ⟨#[]⟩,.int .i64 0,.slice none 0 0]):=HX.out.drewN 1
 replace HZ : Hid (w.heap.size < w1.drew.heap.size):=HZ.out
 replace HT : Hid (Turned w w1.drew (fun b => b = E.Q)):=HT.out.drewN 1
 have HST2 : Hid (PT E rr w1.drew (fun (_ u : Nd) (ls : List Nd) s => (nameP E.L E.e s).bind fun t s => (fun (t u : Nd) (ls : List Nd) (s : PS) => (fun (t u : Nd) (ls : List Nd) (s : PS) => (fun (t _ : Nd) (_ : List Nd) (s : PS) => Res.ok (.mk 5 t.text 0 []) s) t u ls s) t u ls ⟨s.i,s.dep,s.many + 1⟩) t u ls s) ByteArray.empty ByteArray.empty [] (SR w (.slice none 0 0)) 0):=HST.out.below (belowN w1.heap.size w1 1)
 have HNAME:=Lib.hid ((pt_name1 (K:=(fun (t u : Nd) (ls : List Nd) (s : PS) => (fun (t u : Nd) (ls : List Nd) (s : PS) => (fun (t _ : Nd) (_ : List Nd) (s : PS) => Res.ok (.mk 5 t.text 0 []) s) t u ls s) t u ls ⟨s.i,s.dep,s.many + 1⟩)) (sr_ne HQ.out) HST2.out).mono (fun _ _ h => way_open h))
 have hcb:=(HT.out.blk HBB.out NBB.out).f1.1
 clear HST HST2 HO
 go_region_law (first
   | (go_simp;go_at_call 90;with_reducible refine HNAME.out.mono ?_;rintro e w9 ⟨ht9,⟨v9,rfl,t9,rfl,hst9⟩ | ⟨c9,p9,hr9,hc9,rfl⟩⟩;rotate_left;exact throw_out rfl (throw_end (HT.out.then ht9) hr9 hc9);have HF:=Lib.hid (And.intro ht9 hst9);have hcb9:=((HT.out.then ht9).blk HBB.out NBB.out).f1.1;have HNODE:=Lib.hid (pt_node (K:=(fun (t _ : Nd) (_ : List Nd) (s : PS) => Res.ok (.mk 5 t.text 0 []) s)) (sr_ne HQ.out) 5 t9 none 0 0 hst9);clear ht9 hst9)
   | (go_simp;go_at_call 66;with_reducible refine HNODE.out.mono ?_;rintro e w10 ⟨rfl,ht10,hst10⟩;have HG:=Lib.hid (And.intro ht10 hst10);clear ht10 hst10;obtain ⟨u0,u1,u2,u3,g0,g1,g2,g3,gl⟩:=((HF.out.1.then HG.out.1).blk HX.out NE.out).f4))
 all_goals
  clear hcb hcb9 u0 u1 u2 u3 g0 g1 g2 g3 gl HNODE HNAME
  have HEND:=Lib.hid (pt_end (x:=⟨5,t9,0,none,0,0⟩) HQ.out ((HT.out.then HF.out.1).then HG.out.1) ((HF.out.1.then HG.out.1).blk HX.out NE.out) (fun b h => h.1) (PT.leaf (K:=(fun (_ _ : Nd) (_ : List Nd) n s => Res.ok n s)) (kd:=5) (nm:=0) (fun t _ => t.text) (fun _ _ h _ => h.symm) 0 HG.out.2) rfl)
  go_wp2_with fail
  refine open_post (fun W => Blk W w.heap.size 24 #[.int .i64 5,.string t9,.int .i64 0,.slice none 0 0] ∧ PEnd E rr w (.returned (nvA ⟨5,t9,0,none,0,0⟩)) W) HEND.out ?_
  rintro W ⟨hb,hE⟩
  obtain ⟨v0,v1,v2,v3,-⟩:=hb.f4
  exact bodyPost_ret (v:=nvA ⟨5,t9,0,none,0,0⟩) (by simp [results,Tryz.results92,go_sem,nvA,v0,v1,v2,v3]) rfl hE
def listM (E : Env) (f : Nat) (s : PS) : Res:=(wantP E.L E.e ⟨#[40]⟩ s).bind fun _ s => (if seesP E.L ⟨#[41]⟩ s = true then .ok (ndL []) s else run E.L E.e f (.parmsL []) s).bind (finL E)
/-- Behind an element. -/
def KCM (E : Env) (g : Nat) (_ _ : Nd) (ls : List Nd) (s : PS) : Res:=if seesP E.L ⟨#[44]⟩ s = true then (fun (_ _ : Nd) (ls : List Nd) s => (run E.L E.e g (.parmsL ls) s).bind (finL E)) nd0 nd0 ls (stepP s) else (fun (_ _ : Nd) (ls : List Nd) s => finL E (ndL ls) s) nd0 nd0 ls s
theorem parmsL_openM {E : Env} {rr : Res} {w : World} {tv uv : ByteArray} {xs : List NV} {S : Nat → Prop} {lo g : Nat} (ho : rr ≠ .out) (h : PT E rr w (fun _ _ ls s => (run E.L E.e g (.parmsL ls) s).bind (finL E)) tv uv xs S lo) : ∃ g',g' < g ∧ PT E rr w (fun t u ls s => (oneA E g' s).bind fun k s => (fun t u ls k s => KCM E g' t u (ls ++ [k]) s) t u ls k s) tv uv xs S lo:=by
 cases g with
 | zero => exact absurd (h.notout (fun t u ls s => rfl)) ho
 | succ g =>
  refine ⟨g,Nat.lt_succ_self _,h.congrL (fun t u ls s _ => ?_)⟩
  simp only [run,tx_com,nodeP,oneA,argP,bind_assoc,ok_bind,KCM]
  congr 1
  funext k s
  split <;> rfl
/-- What the loop over a list holds. -/
def LIM (w : World) (E : Env) (rr : Res) (f gk : Nat) (v : Value) (wr : World) : Prop :=
 Turned w wr (fun b => b = E.Q) ∧ w.heap.size < wr.heap.size ∧ ∃ A n c xs tv uv g i,v = .slice A n c ∧ OwnN wr (w.heap.size + 1) (.slice A n c) xs ∧ xs.length ≤ i ∧ i ≤ E.L.length ∧ E.L.length - i ≤ gk ∧ g ≤ f ∧ PT E rr wr (KCM E g) tv uv xs (SR w (.slice A n c)) i
set_option maxRecDepth 100000 in
set_option maxHeartbeats 3200000 in
theorem plist_M {f : Nat} {E : Env} {s : PS} {w : World} {B : Nat} (hB : Blk w B 89 #[.pointer (some ⟨E.Q,0,none⟩)]) (hBQ : B ≠ E.Q) (h : PAt w E s) (hout : listM E f s ≠ .out) : Calls Tryz.prog 91 #[.pointer (some ⟨E.Q,0,none⟩),.func (.func 92) #[] #[.pointer (some ⟨B,0,none⟩)]] w (LEnd E (listM E f s) w):=by
 have HO0:=Lib.hid hout
 generalize hrr : listM E f s = rr at *
 have hr : rr = (fun (_ _ : Nd) (_ : List Nd) s => (wantP E.L E.e ⟨#[40]⟩ s).bind fun _ s => (fun (_ _ : Nd) (_ : List Nd) s => (if seesP E.L ⟨#[41]⟩ s = true then .ok (ndL []) s else run E.L E.e f (.parmsL []) s).bind (finL E)) nd0 nd0 [] s) nd0 nd0 [] s:=hrr.symm
 clear hrr hout
 have HBB:=Lib.hid hB
 have NBB : Hid (¬ B = E.Q):=hBQ
 clear hB hBQ
 have HQ:=Lib.hid h.old
 have NE : Hid (¬ w.heap.size = E.Q):=by have:=h.old;show ¬ _;omega
 have hfew:=h.few
 have hb0:=bl w (.cells #[.string ⟨#[40]⟩] 9)
 have HT:=Lib.hid (Turned.of_below (fun b => b = E.Q) hb0)
 have HX:=Lib.hid (Blk.new w 9 #[.string ⟨#[40]⟩])
 have HZ:=zN w (.cells #[.string ⟨#[40]⟩] 9)
 have HO:=Lib.hid (OwnN.nil (w.alloc (.cells #[.string ⟨#[40]⟩] 9)) (w.heap.size + 1))
 have HST : Hid (PT E rr (w.alloc (.cells #[.string ⟨#[40]⟩] 9)) (fun (_ _ : Nd) (_ : List Nd) s => (wantP E.L E.e ⟨#[40]⟩ s).bind fun _ s => (fun (_ _ : Nd) (_ : List Nd) s => (if seesP E.L ⟨#[41]⟩ s = true then .ok (ndL []) s else run E.L E.e f (.parmsL []) s).bind (finL E)) nd0 nd0 [] s) ByteArray.empty ByteArray.empty [] (SR w (.slice none 0 0)) 0):=PT.below ⟨nd0,nd0,[],s,hr,h,rfl,rfl,AllN.nil _ _,Nat.zero_le _⟩ hb0
 clear h hb0 hr
 go_enter Tryz.func91,Tryz.ntmps91
 go_wp2_with fail
 generalize (w.alloc (.cells #[.string ⟨#[40]⟩] 9)) = w1 at *
 refine (pt_want (sr_ne HQ.out) (g:=w.heap.size) _ HX.out.f1.1 NE.out HX.out.lt HST.out).mono ?_
 rintro e w2 ⟨ht9,⟨v9,rfl,rfl,hst9⟩ | ⟨c9,p9,hr9,hc9,rfl⟩⟩
 rotate_left
 ·exact ⟨rfl,HT.out.then ht9,.inr ⟨_,_,hr9,hc9,rfl⟩⟩
 replace HX:=bT HX ht9 NE
 replace HO:=Lib.hid (HO.out.turned ht9 (row_ne HO.out HQ.out))
 replace HZ:=zT HZ ht9
 replace HT:=tT HT ht9
 replace HST:=Lib.hid hst9
 clear ht9 hst9
 replace HST:=Lib.hid (PT.nil (K':=fun t u ls s => if seesP E.L ⟨#[41]⟩ s = true then (fun (_ _ : Nd) (ls : List Nd) s => finL E (ndL ls) s) t u ls s else (fun (_ _ : Nd) (ls : List Nd) s => (run E.L E.e f (.parmsL ls) s).bind (finL E)) t u ls s) HST.out (fun t u s => by (try dsimp only);split <;> rfl))
 go_wp2_with fail
 refine (pt_sees (A:=(fun (_ _ : Nd) (ls : List Nd) s => finL E (ndL ls) s)) (B:=(fun (_ _ : Nd) (ls : List Nd) s => (run E.L E.e f (.parmsL ls) s).bind (finL E))) (sr_ne HQ.out) ⟨#[41]⟩ HST.out).mono ?_
 rintro e w11 ⟨b9,rfl,ht9,hy9,hn9⟩
 replace HX:=bT HX ht9 NE
 replace HO:=Lib.hid (HO.out.turned ht9 (row_ne HO.out HQ.out))
 replace HZ:=zT HZ ht9
 replace HT:=tT HT ht9
 clear ht9 HST
 cases b9
 ·have HST:=Lib.hid (hn9 rfl)
  clear hy9 hn9
  obtain ⟨g1,hg1,hst⟩:=parmsL_openM HO0.out HST.out
  replace HST:=Lib.hid hst
  clear hst
  go_wp2_with fail
  refine (pt_callW 1 (sr_ne HQ.out) (R:=oneA E g1) (fun s9 hs9 ho9 => parg_any (HT.out.blk HBB.out NBB.out) NBB.out hs9) (mo_oneA E g1) HO0.out (fun b hb => ⟨Nat.lt_of_lt_of_le HZ.out hb,fun e => Nat.lt_irrefl _ (Nat.lt_of_lt_of_le (HO.out.lt _ e).2 hb)⟩) HST.out).mono ?_
  rintro e w12 ⟨ht9,⟨v9,rfl,x_k,rfl,hst9⟩ | ⟨c9,p9,hr9,hc9,rfl⟩⟩
  rotate_left
  ·exact ⟨rfl,HT.out.then ht9,.inr ⟨_,_,hr9,hc9,rfl⟩⟩
  replace HX:=bT HX ht9 NE
  replace HO:=Lib.hid (HO.out.turned ht9 (row_ne HO.out HQ.out))
  replace HZ:=zT HZ ht9
  replace HT:=tT HT ht9
  replace HST:=Lib.hid hst9
  clear ht9 hst9
  replace HST : Hid (PT1 E rr _ (fun t u ls k s => KCM E g1 t u (ls ++ [k]) s) _ _ _ _ _ _):=HST.out
  have HI2:=Lib.hid (show _ ≤ E.L.length from by obtain ⟨t,u,ls,n,s,h1,h2,h3,h4,h5,h6,hl⟩:=HST.out;exact Nat.le_trans hl h2.le)
  have HZ0:=HZ
  obtain ⟨oz9,hz9⟩:=oN x_k
  replace HX:=bA HX oz9
  replace HO:=oA HO oz9
  replace HST:=Lib.hid (HST.out.alloc oz9)
  replace HT:=tA HT oz9
  replace HZ:=zA HZ oz9
  subst hz9
  have LIE:=lN1 w12 x_k
  have BD1 : Hid ((([] : List NV)).length ≤ 1000000):=by show _ ≤ _;simp
  have BD2 : Hid ([x_k].length ≤ 1000000):=by show _ ≤ _;simp
  go_wp2_with (at_builtin;refine wpList_joinNd rfl _ _ rfl (w.heap.size + 1) _ _ rfl HO.out (some ⟨(World.heap w12).size,0,none⟩) [x_k] 1 rfl LIE.out BD1.out BD2.out HZ.out ?_;intro A13 n14 c15 w16 hown hgr hpl;have HOWN:=Lib.hid hown;have HGR:=Lib.hid hgr;have HPL:=Lib.hid hpl;clear hown hgr hpl)
  replace HX:=Lib.hid (HX.out.grown HGR.out (row_nw HO.out))
  replace HZ:=Lib.hid (Nat.lt_of_lt_of_le HZ.out HGR.out.size)
  replace HT:=Lib.hid (HT.out.grown HGR.out (fun k e => .inr (row_ge HO.out k e)))
  replace HST:=Lib.hid (PT1.push (K:=(KCM E g1)) HST.out HQ.out HO.out HGR.out HPL.out)
  replace HO:=HOWN
  clear LIE HGR HPL HOWN
  go_wp2_with fail
  go_loopg [5] E.L.length (fun gk v wr => LIM w E rr f gk v wr)
  case atStart => exact ⟨HT.out,HZ.out,_,_,_,_,_,_,g1,0 + 1 + 1,rfl,HO.out,by simp,HI2.out,by omega,Nat.le_of_lt hg1,HST.out⟩
  case round =>
   clear HT HZ HX HO HST HI2
   obtain ⟨ht,hz,A_r,n_r,c_r,xs_r,tv,uv,g,i,rfl,ho,hl,hi,hgk,hgf,hst⟩:=hrel
   have HT:=Lib.hid ht
   have HZ:=Lib.hid hz
   have HO:=Lib.hid ho
   have HL:=Lib.hid hl
   have HI:=Lib.hid hi
   have HGK:=Lib.hid hgk
   have HST:=Lib.hid hst
   clear ht hz ho hl hi hgk hst
   have HX : Hid (Blk wr w.heap.size 9 #[.string ⟨#[40]⟩] ∨ True):=.inr True.intro
   go_wp2_with fail
   refine (pt_takes (A:=(fun (_ _ : Nd) (ls : List Nd) s => (run E.L E.e g (.parmsL ls) s).bind (finL E))) (B:=(fun (_ _ : Nd) (ls : List Nd) s => finL E (ndL ls) s)) (sr_ne HQ.out) ⟨#[44]⟩ HST.out).mono ?_
   rintro e w17 ⟨b9,rfl,ht9,hy9,hn9⟩
   replace HO:=Lib.hid (HO.out.turned ht9 (row_ne HO.out HQ.out))
   replace HZ:=zT HZ ht9
   replace HT:=tT HT ht9
   clear ht9 HST
   cases b9
   ·have HST:=Lib.hid (hn9 rfl)
    clear hy9 hn9
    have HL8 : Hid (xs_r.length ≤ 4000):=by have h1:=HL.out;have h2:=HI.out;show _ ≤ _;omega
    replace HST : Hid (PT E rr _ (fun (t u : Nd) (ls : List Nd) s => (wantP E.L E.e ⟨#[41]⟩ s).bind fun _ s => (fun (_ _ : Nd) (ls : List Nd) s => Res.ok (ndL ls) s) t u ls s) _ _ _ _ _):=HST.out
    go_wp2_with fail
    have HB_k18:=Lib.hid (Blk.new w17 9 #[.string ⟨#[41]⟩])
    have NB_k18:=nE HQ HZ
    have HG_k18 : Hid (w.heap.size < (World.heap w17).size):=HZ.out
    replace HO:=oA HO (.cells #[.string ⟨#[41]⟩] 9)
    replace HST:=Lib.hid (HST.out.alloc (.cells #[.string ⟨#[41]⟩] 9))
    replace HT:=tA HT (.cells #[.string ⟨#[41]⟩] 9)
    replace HZ:=zA HZ (.cells #[.string ⟨#[41]⟩] 9)
    go_wp2_with fail
    (try rw [← (show (World.alloc w17 (.cells #[.string ⟨#[41]⟩] 9)).heap.size = _ from World.size_alloc _ _)])
    generalize (World.alloc w17 (.cells #[.string ⟨#[41]⟩] 9)) = w19 at *
    generalize (World.heap w17).size = b_k18 at *
    refine (pt_want (sr_ne HQ.out) (g:=b_k18) _ HB_k18.out.f1.1 NB_k18.out HB_k18.out.lt HST.out).mono ?_
    rintro e w20 ⟨ht9,⟨v9,rfl,rfl,hst9⟩ | ⟨c9,p9,hr9,hc9,rfl⟩⟩
    rotate_left
    ·exact ⟨rfl,HT.out.then ht9,.inr ⟨_,_,hr9,hc9,rfl⟩⟩
    clear HB_k18 NB_k18 HG_k18
    replace HO:=Lib.hid (HO.out.turned ht9 (row_ne HO.out HQ.out))
    replace HZ:=zT HZ ht9
    replace HT:=tT HT ht9
    replace HST:=Lib.hid hst9
    clear ht9 hst9
    go_wp2_with fail
    have HEND:=Lib.hid (list_end HT.out HO.out HL8.out HZ.out HST.out)
    exact bodyPost_ret (v:=.slice A_r n_r c_r) (by simp [results,Tryz.results91,go_sem]) rfl HEND.out
   ·have HST:=Lib.hid (hy9 rfl)
    clear hy9 hn9
    obtain ⟨g2,hg2,hst⟩:=parmsL_openM HO0.out HST.out
    replace HST:=Lib.hid hst
    clear hst
    go_wp2_with fail
    refine (pt_callW 1 (sr_ne HQ.out) (R:=oneA E g2) (fun s9 hs9 ho9 => parg_any (HT.out.blk HBB.out NBB.out) NBB.out hs9) (mo_oneA E g2) HO0.out (fun b hb => ⟨Nat.lt_of_lt_of_le HZ.out hb,fun e => Nat.lt_irrefl _ (Nat.lt_of_lt_of_le (HO.out.lt _ e).2 hb)⟩) HST.out).mono ?_
    rintro e w21 ⟨ht9,⟨v9,rfl,x_j,rfl,hst9⟩ | ⟨c9,p9,hr9,hc9,rfl⟩⟩
    rotate_left
    ·exact ⟨rfl,HT.out.then ht9,.inr ⟨_,_,hr9,hc9,rfl⟩⟩
    replace HO:=Lib.hid (HO.out.turned ht9 (row_ne HO.out HQ.out))
    replace HZ:=zT HZ ht9
    replace HT:=tT HT ht9
    replace HST:=Lib.hid hst9
    clear ht9 hst9
    replace HST : Hid (PT1 E rr _ (fun t u ls k s => KCM E g2 t u (ls ++ [k]) s) _ _ _ _ _ _):=HST.out
    have HI2:=Lib.hid (show _ ≤ E.L.length from by obtain ⟨t,u,ls,n,s,h1,h2,h3,h4,h5,h6,hl⟩:=HST.out;exact Nat.le_trans hl h2.le)
    have HZ0:=HZ
    obtain ⟨oz9,hz9⟩:=oN x_j
    replace HO:=oA HO oz9
    replace HST:=Lib.hid (HST.out.alloc oz9)
    replace HT:=tA HT oz9
    replace HZ:=zA HZ oz9
    subst hz9
    have LIE:=lN1 w21 x_j
    have BD1 : Hid ((xs_r).length ≤ 1000000):=by have h1:=HL.out;have h2:=HI.out;show _ ≤ _;omega
    have BD2 : Hid ([x_j].length ≤ 1000000):=by show _ ≤ _;simp
    go_wp2_with (at_builtin;refine wpList_joinNd rfl _ _ rfl (w.heap.size + 1) _ _ rfl HO.out (some ⟨(World.heap w21).size,0,none⟩) [x_j] 1 rfl LIE.out BD1.out BD2.out HZ.out ?_;intro A22 n23 c24 w25 hown hgr hpl;have HOWN:=Lib.hid hown;have HGR:=Lib.hid hgr;have HPL:=Lib.hid hpl;clear hown hgr hpl)
    replace HZ:=Lib.hid (Nat.lt_of_lt_of_le HZ.out HGR.out.size)
    replace HT:=Lib.hid (HT.out.grown HGR.out (fun k e => .inr (row_ge HO.out k e)))
    replace HST:=Lib.hid (PT1.push (K:=(KCM E g2)) HST.out HQ.out HO.out HGR.out HPL.out)
    replace HO:=HOWN
    clear LIE HGR HPL HOWN
    have hi2:=HI2.out
    have hl9:=HL.out
    have hg9:=HGK.out
    go_wp2_with fail
    go_roundg (gk - 1)
    case measure => omega
    case rel => exact ⟨HT.out,HZ.out,_,_,_,_,_,_,g2,i + 1 + 1,rfl,HO.out,by simp;omega,by omega,by omega,by omega,HST.out⟩
 ·have HST:=Lib.hid (hy9 rfl).1
  clear hy9 hn9
  have HL8 : Hid (([] : List NV).length ≤ 4000):=by show _ ≤ _;simp
  replace HST : Hid (PT E rr _ (fun (t u : Nd) (ls : List Nd) s => (wantP E.L E.e ⟨#[41]⟩ s).bind fun _ s => (fun (_ _ : Nd) (ls : List Nd) s => Res.ok (ndL ls) s) t u ls s) _ _ _ _ _):=HST.out
  go_wp2_with fail
  have HB_k26:=Lib.hid (Blk.new w11 9 #[.string ⟨#[41]⟩])
  have NB_k26:=nE HQ HZ
  have HG_k26 : Hid (w.heap.size < (World.heap w11).size):=HZ.out
  replace HX:=bA HX (.cells #[.string ⟨#[41]⟩] 9)
  replace HO:=oA HO (.cells #[.string ⟨#[41]⟩] 9)
  replace HST:=Lib.hid (HST.out.alloc (.cells #[.string ⟨#[41]⟩] 9))
  replace HT:=tA HT (.cells #[.string ⟨#[41]⟩] 9)
  replace HZ:=zA HZ (.cells #[.string ⟨#[41]⟩] 9)
  go_wp2_with fail
  (try rw [← (show (World.alloc w11 (.cells #[.string ⟨#[41]⟩] 9)).heap.size = _ from World.size_alloc _ _)])
  generalize (World.alloc w11 (.cells #[.string ⟨#[41]⟩] 9)) = w27 at *
  generalize (World.heap w11).size = b_k26 at *
  refine (pt_want (sr_ne HQ.out) (g:=b_k26) _ HB_k26.out.f1.1 NB_k26.out HB_k26.out.lt HST.out).mono ?_
  rintro e w28 ⟨ht9,⟨v9,rfl,rfl,hst9⟩ | ⟨c9,p9,hr9,hc9,rfl⟩⟩
  rotate_left
  ·exact ⟨rfl,HT.out.then ht9,.inr ⟨_,_,hr9,hc9,rfl⟩⟩
  clear HB_k26 NB_k26 HG_k26
  replace HX:=bT HX ht9 NE
  replace HO:=Lib.hid (HO.out.turned ht9 (row_ne HO.out HQ.out))
  replace HZ:=zT HZ ht9
  replace HT:=tT HT ht9
  replace HST:=Lib.hid hst9
  clear ht9 hst9
  go_wp2_with fail
  have HEND:=Lib.hid (list_end HT.out HO.out HL8.out HZ.out HST.out)
  exact bodyPost_ret (v:=.slice none 0 0) (by simp [results,Tryz.results91,go_sem]) rfl HEND.out
end Go.Proofs.YtbpldfmmlgkfnaaGreatDoor
