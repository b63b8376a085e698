/- The program's parser: statements. Conditions: what expressions and blocks do. -/
import Derived.Test.YtbpldfmmlgkfnaaGreatDoorEMemZ
import Derived.Test.YtbpldfmmlgkfnaaGreatDoorEPpE
namespace Go.Proofs.YtbpldfmmlgkfnaaGreatDoor
open Go.RowKit
set_option linter.unusedVariables false
/-- A node made, a semicolon behind. -/
def endS (E : Env) (n : Nd) (s : PS) : Res:=(wantP E.L E.e ⟨#[59]⟩ ⟨s.i,s.dep,s.many + 1⟩).bind fun _ s => .ok n s
theorem end_semi (E : Env) (n : Nd) (s : PS) : ((wantP E.L E.e ⟨#[59]⟩ s).bind fun _ s => Res.ok n ⟨s.i,s.dep,s.many + 1⟩) = endS E n s:=(want_made E.L E.e ⟨#[59]⟩ s (fun s => Res.ok n s)).symm
def sVar (E : Env) (f : Nat) (s : PS) : Res:=(nameP E.L E.e s).bind fun t s => (wantP E.L E.e ⟨#[61]⟩ s).bind fun _ s => (run E.L E.e f .expr s).bind fun k s => endS E (.mk 7 t.text 0 [k]) s
def sSet (E : Env) (f : Nat) (s : PS) : Res:=(nameP E.L E.e s).bind fun t s => (wantP E.L E.e ⟨#[61]⟩ s).bind fun _ s => (run E.L E.e f .expr s).bind fun k s => endS E (.mk 8 t.text 0 [k]) s
def sIf (E : Env) (f : Nat) (s : PS) : Res:=(heldP E f s).bind fun k s => (run E.L E.e f .block s).bind fun b s => if seesP E.L ⟨#[101,108,115,101]⟩ s = true then (run E.L E.e f .block (stepP s)).bind fun c s => .ok (.mk 9 ⟨#[]⟩ 0 [k,b,c]) ⟨s.i,s.dep,s.many + 1⟩ else .ok (.mk 9 ⟨#[]⟩ 0 [k,b]) ⟨s.i,s.dep,s.many + 1⟩
def sWhile (E : Env) (f : Nat) (s : PS) : Res:=(heldP E f s).bind fun k s => (run E.L E.e f .block s).bind fun b s => .ok (.mk 10 ⟨#[]⟩ 0 [k,b]) ⟨s.i,s.dep,s.many + 1⟩
def sExp (E : Env) (f : Nat) (kd : Int) (s : PS) : Res:=(run E.L E.e f .expr s).bind fun k s => endS E (.mk kd ⟨#[]⟩ 0 [k]) s
def sHeld (E : Env) (f : Nat) (kd : Int) (s : PS) : Res:=(heldP E f s).bind fun k s => endS E (.mk kd ⟨#[]⟩ 0 [k]) s
def sFork (E : Env) (f : Nat) (s : PS) : Res:=(run E.L E.e f .block s).bind fun b s => .ok (.mk 13 ⟨#[]⟩ 0 [b]) ⟨s.i,s.dep,s.many + 1⟩
def sSwap (E : Env) (f : Nat) (s : PS) : Res:=(wantP E.L E.e ⟨#[40]⟩ s).bind fun _ s => (run E.L E.e f .expr s).bind fun k s => (wantP E.L E.e ⟨#[44]⟩ s).bind fun _ s => (run E.L E.e f .expr s).bind fun m s => (wantP E.L E.e ⟨#[41]⟩ s).bind fun _ s => endS E (.mk 16 ⟨#[]⟩ 0 [k,m]) s
def sRest (E : Env) (f : Nat) (s : PS) : Res:=if isP E.L 1 s = true ∧ sameT (textP E.L (stepP s)) ⟨#[61]⟩ = true then sSet E f s else sExp E f 17 s

def sTail8 (E : Env) (f : Nat) (s : PS) : Res:=if seesP E.L ⟨#[115,119,97,112]⟩ s = true then sSwap E f (stepP s) else sRest E f s
def sTail7 (E : Env) (f : Nat) (s : PS) : Res:=if seesP E.L ⟨#[115,105,103,110,97,108]⟩ s = true then sHeld E f 15 (stepP s) else sTail8 E f s
def sTail6 (E : Env) (f : Nat) (s : PS) : Res:=if seesP E.L ⟨#[119,97,105,116]⟩ s = true then sHeld E f 14 (stepP s) else sTail7 E f s
def sTail5 (E : Env) (f : Nat) (s : PS) : Res:=if seesP E.L ⟨#[102,111,114,107]⟩ s = true then sFork E f (stepP s) else sTail6 E f s
def sTail4 (E : Env) (f : Nat) (s : PS) : Res:=if seesP E.L ⟨#[112,114,105,110,116]⟩ s = true then sHeld E f 12 (stepP s) else sTail5 E f s
def sTail3 (E : Env) (f : Nat) (s : PS) : Res:=if seesP E.L ⟨#[114,101,116,117,114,110]⟩ s = true then sExp E f 11 (stepP s) else sTail4 E f s
def sTail2 (E : Env) (f : Nat) (s : PS) : Res:=if seesP E.L ⟨#[119,104,105,108,101]⟩ s = true then sWhile E f (stepP s) else sTail3 E f s
def sTail1 (E : Env) (f : Nat) (s : PS) : Res:=if seesP E.L ⟨#[105,102]⟩ s = true then sIf E f (stepP s) else sTail2 E f s
def sTail0 (E : Env) (f : Nat) (s : PS) : Res:=if seesP E.L ⟨#[118,97,114]⟩ s = true then sVar E f (stepP s) else sTail1 E f s
theorem stmt_eq (E : Env) (f : Nat) (s : PS) : run E.L E.e (f + 1) .stmt s = sTail0 E f s:=by
 simp only [run,nodeP,tx_nil,tx_eq,tx_semi,tx_com,tx_lp,tx_rp,tx_var,tx_if,tx_else,tx_while,tx_return,tx_print,tx_fork,tx_wait,tx_signal,tx_swap,end_semi]
 unfold sTail0 sTail1 sTail2 sTail3 sTail4 sTail5 sTail6 sTail7 sTail8 sRest sVar sSet sIf sWhile sExp sHeld sFork sSwap heldP
 simp only [bind_assoc,ok_bind]
theorem PAt.second {w : World} {E : Env} {s : PS} (h : PAt w E s) (hlt : s.i + 1 < E.L.length) : ∃ b o c,Blk w E.Q pT #[.slice (some ⟨b,o,none⟩) (E.L.length - s.i) c,.int .i64 (E.e : Nat),.int .i64 s.dep,.int .i64 (wrap64 (s.many : Nat))] ∧ w.cell? ⟨b,o + 3 + 1,none⟩ = some (.string (textP E.L (stepP s))):=by
 obtain ⟨A,c,ht,hc,ha,hb⟩:=h.lies
 have hl : 1 < (E.L.drop s.i).length:=by rw [List.length_drop];omega
 obtain ⟨b,o,rfl,hlt2,hcs⟩:=ht (Nat.lt_of_succ_lt hl)
 obtain ⟨h1,h2,h3⟩:=hcs 1 hl
 have e0 : (E.L.drop s.i)[1] = E.L[s.i + 1]:=by simp
 have hv : textP E.L (stepP s) = E.L[s.i + 1].text:=by unfold textP;rw [show (stepP s).i = s.i + 1 from rfl,List.getElem?_eq_getElem hlt]
 rw [e0,← hv] at h2
 exact ⟨b,o,c,hb,by simpa using h2⟩

set_option maxRecDepth 100000 in
set_option maxHeartbeats 16000000 in
theorem pstmt_any {f : Nat} (ihX : PCall f .expr 108) (ihB : PCall f .block 64) {E : Env} {s : PS} {w : World} (h : PAt w E s) (hout : run E.L E.e (f + 1) .stmt s ≠ .out) : Calls Tryz.prog 94 #[.pointer (some ⟨E.Q,0,none⟩)] w (PEnd E (run E.L E.e (f + 1) .stmt s) w):=by
 have HO0:=Lib.hid hout
 generalize hrr : run E.L E.e (f + 1) .stmt s = rr at *
 have hr : rr = (fun (_ _ : Nd) (_ : List Nd) s => sTail0 E f s) nd0 nd0 [] s:=by rw [← hrr];exact stmt_eq E f s
 clear hrr hout
 have HQ:=Lib.hid h.old
 have NE : Hid (¬ w.heap.size = E.Q):=by have:=h.old;show ¬ _;omega
 have hfew:=h.few
 obtain ⟨o9,ho9⟩:=oZ
 have hb0:=bl w o9
 have HT:=Lib.hid (Turned.of_below (fun b => b = E.Q) hb0)
 have HX:=zB w
 have HZ:=zN w o9
 have HO:=Lib.hid (OwnN.nil (w.alloc o9) (w.heap.size + 1))
 subst ho9
 have HST : Hid (PT E rr (w.alloc (.cells #[.int .i64 0,.string ⟨#[]⟩,.int .i64 0,.slice none 0 0] 24)) (fun (_ _ : Nd) (_ : List Nd) s => sTail0 E f s) ByteArray.empty ByteArray.empty [] (SR w (.slice none 0 0)) 0):=PT.below (K:=(fun (_ _ : Nd) (_ : List Nd) s => sTail0 E f s)) ⟨nd0,nd0,[],s,hr,h,rfl,rfl,AllN.nil _ _,Nat.zero_le _⟩ hb0
 clear h hb0 hr
 go_enter Tryz.func94,Tryz.ntmps94
 replace HST : Hid (PT E rr _ (fun (t u : Nd) (ls : List Nd) s => if seesP E.L ⟨#[118,97,114]⟩ s = true then (fun (_ _ : Nd) (_ : List Nd) s => sVar E f s) t u ls (stepP s) else (fun (_ _ : Nd) (_ : List Nd) s => sTail1 E f s) t u ls s) _ _ _ _ _):=HST.out
 go_wp2_with fail
 (try rw [← (show (w.alloc (.cells #[.int .i64 0,.string ⟨#[]⟩,.int .i64 0,.slice none 0 0] 24)).heap.size = _ from World.size_alloc _ _)])
 generalize (w.alloc (.cells #[.int .i64 0,.string ⟨#[]⟩,.int .i64 0,.slice none 0 0] 24)) = w1 at *
 refine (pt_takes (sr_ne HQ.out) ⟨#[118,97,114]⟩ HST.out).mono ?_
 rintro e w2 ⟨b9,rfl,ht9,hy9,hn9⟩
 replace HX:=bT HX ht9 NE
 replace HO:=Lib.hid (HO.out.turned ht9 (row_ne HO.out HQ.out))
 replace HZ:=zT HZ ht9
 replace HT:=tT HT ht9
 clear ht9 HST
 cases b9
 ·have HST:=Lib.hid (hn9 rfl)
  clear hy9 hn9
  replace HST : Hid (PT E rr _ (fun (t u : Nd) (ls : List Nd) s => if seesP E.L ⟨#[105,102]⟩ s = true then (fun (_ _ : Nd) (_ : List Nd) s => sIf E f s) t u ls (stepP s) else (fun (_ _ : Nd) (_ : List Nd) s => sTail2 E f s) t u ls s) _ _ _ _ _):=HST.out
  go_wp2_with fail
  refine (pt_takes (sr_ne HQ.out) ⟨#[105,102]⟩ HST.out).mono ?_
  rintro e w3 ⟨b9,rfl,ht9,hy9,hn9⟩
  replace HX:=bT HX ht9 NE
  replace HO:=Lib.hid (HO.out.turned ht9 (row_ne HO.out HQ.out))
  replace HZ:=zT HZ ht9
  replace HT:=tT HT ht9
  clear ht9 HST
  cases b9
  ·have HST:=Lib.hid (hn9 rfl)
   clear hy9 hn9
   replace HST : Hid (PT E rr _ (fun (t u : Nd) (ls : List Nd) s => if seesP E.L ⟨#[119,104,105,108,101]⟩ s = true then (fun (_ _ : Nd) (_ : List Nd) s => sWhile E f s) t u ls (stepP s) else (fun (_ _ : Nd) (_ : List Nd) s => sTail3 E f s) t u ls s) _ _ _ _ _):=HST.out
   go_wp2_with fail
   refine (pt_takes (sr_ne HQ.out) ⟨#[119,104,105,108,101]⟩ HST.out).mono ?_
   rintro e w4 ⟨b9,rfl,ht9,hy9,hn9⟩
   replace HX:=bT HX ht9 NE
   replace HO:=Lib.hid (HO.out.turned ht9 (row_ne HO.out HQ.out))
   replace HZ:=zT HZ ht9
   replace HT:=tT HT ht9
   clear ht9 HST
   cases b9
   ·have HST:=Lib.hid (hn9 rfl)
    clear hy9 hn9
    replace HST : Hid (PT E rr _ (fun (t u : Nd) (ls : List Nd) s => if seesP E.L ⟨#[114,101,116,117,114,110]⟩ s = true then (fun (_ _ : Nd) (_ : List Nd) s => sExp E f 11 s) t u ls (stepP s) else (fun (_ _ : Nd) (_ : List Nd) s => sTail4 E f s) t u ls s) _ _ _ _ _):=HST.out
    go_wp2_with fail
    refine (pt_takes (sr_ne HQ.out) ⟨#[114,101,116,117,114,110]⟩ HST.out).mono ?_
    rintro e w5 ⟨b9,rfl,ht9,hy9,hn9⟩
    replace HX:=bT HX ht9 NE
    replace HO:=Lib.hid (HO.out.turned ht9 (row_ne HO.out HQ.out))
    replace HZ:=zT HZ ht9
    replace HT:=tT HT ht9
    clear ht9 HST
    cases b9
    ·have HST:=Lib.hid (hn9 rfl)
     clear hy9 hn9
     replace HST : Hid (PT E rr _ (fun (t u : Nd) (ls : List Nd) s => if seesP E.L ⟨#[112,114,105,110,116]⟩ s = true then (fun (_ _ : Nd) (_ : List Nd) s => sHeld E f 12 s) t u ls (stepP s) else (fun (_ _ : Nd) (_ : List Nd) s => sTail5 E f s) t u ls s) _ _ _ _ _):=HST.out
     go_wp2_with fail
     refine (pt_takes (sr_ne HQ.out) ⟨#[112,114,105,110,116]⟩ HST.out).mono ?_
     rintro e w6 ⟨b9,rfl,ht9,hy9,hn9⟩
     replace HX:=bT HX ht9 NE
     replace HO:=Lib.hid (HO.out.turned ht9 (row_ne HO.out HQ.out))
     replace HZ:=zT HZ ht9
     replace HT:=tT HT ht9
     clear ht9 HST
     cases b9
     ·have HST:=Lib.hid (hn9 rfl)
      clear hy9 hn9
      replace HST : Hid (PT E rr _ (fun (t u : Nd) (ls : List Nd) s => if seesP E.L ⟨#[102,111,114,107]⟩ s = true then (fun (_ _ : Nd) (_ : List Nd) s => sFork E f s) t u ls (stepP s) else (fun (_ _ : Nd) (_ : List Nd) s => sTail6 E f s) t u ls s) _ _ _ _ _):=HST.out
      go_wp2_with fail
      refine (pt_takes (sr_ne HQ.out) ⟨#[102,111,114,107]⟩ HST.out).mono ?_
      rintro e w7 ⟨b9,rfl,ht9,hy9,hn9⟩
      replace HX:=bT HX ht9 NE
      replace HO:=Lib.hid (HO.out.turned ht9 (row_ne HO.out HQ.out))
      replace HZ:=zT HZ ht9
      replace HT:=tT HT ht9
      clear ht9 HST
      cases b9
      ·have HST:=Lib.hid (hn9 rfl)
       clear hy9 hn9
       replace HST : Hid (PT E rr _ (fun (t u : Nd) (ls : List Nd) s => if seesP E.L ⟨#[119,97,105,116]⟩ s = true then (fun (_ _ : Nd) (_ : List Nd) s => sHeld E f 14 s) t u ls (stepP s) else (fun (_ _ : Nd) (_ : List Nd) s => sTail7 E f s) t u ls s) _ _ _ _ _):=HST.out
       go_wp2_with fail
       refine (pt_takes (sr_ne HQ.out) ⟨#[119,97,105,116]⟩ HST.out).mono ?_
       rintro e w8 ⟨b9,rfl,ht9,hy9,hn9⟩
       replace HX:=bT HX ht9 NE
       replace HO:=Lib.hid (HO.out.turned ht9 (row_ne HO.out HQ.out))
       replace HZ:=zT HZ ht9
       replace HT:=tT HT ht9
       clear ht9 HST
       cases b9
       ·have HST:=Lib.hid (hn9 rfl)
        clear hy9 hn9
        replace HST : Hid (PT E rr _ (fun (t u : Nd) (ls : List Nd) s => if seesP E.L ⟨#[115,105,103,110,97,108]⟩ s = true then (fun (_ _ : Nd) (_ : List Nd) s => sHeld E f 15 s) t u ls (stepP s) else (fun (_ _ : Nd) (_ : List Nd) s => sTail8 E f s) t u ls s) _ _ _ _ _):=HST.out
        go_wp2_with fail
        refine (pt_takes (sr_ne HQ.out) ⟨#[115,105,103,110,97,108]⟩ HST.out).mono ?_
        rintro e w9 ⟨b9,rfl,ht9,hy9,hn9⟩
        replace HX:=bT HX ht9 NE
        replace HO:=Lib.hid (HO.out.turned ht9 (row_ne HO.out HQ.out))
        replace HZ:=zT HZ ht9
        replace HT:=tT HT ht9
        clear ht9 HST
        cases b9
        ·have HST:=Lib.hid (hn9 rfl)
         clear hy9 hn9
         replace HST : Hid (PT E rr _ (fun (t u : Nd) (ls : List Nd) s => if seesP E.L ⟨#[115,119,97,112]⟩ s = true then (fun (_ _ : Nd) (_ : List Nd) s => sSwap E f s) t u ls (stepP s) else (fun (_ _ : Nd) (_ : List Nd) s => sRest E f s) t u ls s) _ _ _ _ _):=HST.out
         go_wp2_with fail
         refine (pt_takes (sr_ne HQ.out) ⟨#[115,119,97,112]⟩ HST.out).mono ?_
         rintro e w10 ⟨b9,rfl,ht9,hy9,hn9⟩
         replace HX:=bT HX ht9 NE
         replace HO:=Lib.hid (HO.out.turned ht9 (row_ne HO.out HQ.out))
         replace HZ:=zT HZ ht9
         replace HT:=tT HT ht9
         clear ht9 HST
         cases b9
         ·have HST:=Lib.hid (hn9 rfl)
          clear hy9 hn9
          have hx9:=HST.out
          obtain ⟨t9,u9,ls9,s9,k1,k2,k3,k4,k5,k6⟩:=hx9
          have HIS:=Lib.hid (pis_any 1 k2)
          have HAT:=Lib.hid k2
          have HLS:=Lib.hid k5
          have hk : rr = sRest E f s9:=k1
          have HK:=Lib.hid hk
          clear k1 k2 k5 k6 hk HST
          cases a1 : isP E.L 1 s9
          ·rw [a1] at HIS
           have HRR : Hid (sRest E f s9 = sExp E f 17 s9):=if_neg (by rw [a1];exact fun h => by cases h.1)
           clear a1
           go_wp2_with fail
           refine HIS.out.mono ?_
           rintro e w11 ⟨rfl,hb9⟩
           have ht9:=Turned.of_below (fun b => b = E.Q) hb9
           replace HAT:=Lib.hid (HAT.out.below hb9)
           replace HLS:=Lib.hid (HLS.out.turned ht9 (sr_ne HQ.out))
           replace HX:=bT HX ht9 NE
           replace HO:=Lib.hid (HO.out.turned ht9 (row_ne HO.out HQ.out))
           replace HZ:=zT HZ ht9
           replace HT:=tT HT ht9
           clear ht9 hb9 HIS
           have HST : Hid (PT E rr w11 (fun (_ _ : Nd) (_ : List Nd) s => sExp E f 17 s) _ _ _ (SR w (.slice none 0 0)) 0):=⟨t9,u9,ls9,s9,HK.out.trans HRR.out,HAT.out,k3,k4,HLS.out,Nat.zero_le _⟩
           clear HAT HLS HK HRR
           -- an expression
           replace HST : Hid (PT E rr _ (fun (t u : Nd) (ls : List Nd) s => (run E.L E.e f .expr s).bind fun k s => (fun (_ _ : Nd) (_ : List Nd) k s => endS E (.mk 17 ⟨#[]⟩ 0 [k]) s) t u ls k s) _ _ _ _ _):=HST.out
           go_wp2_with fail
           refine (pt_call (sr_ne HQ.out) ihX HO0.out (fun b hb => ⟨Nat.lt_of_lt_of_le HZ.out hb,fun e => Nat.lt_irrefl _ (Nat.lt_of_lt_of_le (HO.out.lt _ e).2 hb)⟩) HST.out).mono ?_
           rintro e w12 ⟨ht9,⟨v9,rfl,x_k,rfl,hst9⟩ | ⟨c9,p9,hr9,hc9,rfl⟩⟩
           rotate_left
           ·exact ⟨rfl,HT.out.then ht9,.inr ⟨_,_,hr9,hc9,rfl⟩⟩
           replace HX:=bT HX ht9 NE
           replace HO:=Lib.hid (HO.out.turned ht9 (row_ne HO.out HQ.out))
           replace HZ:=zT HZ ht9
           replace HT:=tT HT ht9
           replace HST:=Lib.hid hst9
           clear ht9 hst9
           replace HST : Hid (PT1 E rr _ (fun t u (_ : List Nd) n s => (fun (t u : Nd) (ls : List Nd) s => endS E (.mk 17 ⟨#[]⟩ 0 ls) s) t u [n] s) _ _ _ _ _ _):=HST.out
           replace HST:=Lib.hid (PT1.first (K:=(fun (t u : Nd) (ls : List Nd) s => endS E (.mk 17 ⟨#[]⟩ 0 ls) s)) HST.out)
           replace HST:=Lib.hid (HST.out.weak (S':=SR w (.slice (some ⟨(World.heap w12).size,0,none⟩) 1 1)) (fun b hb h => ⟨h.1,fun e => Nat.lt_irrefl _ (Option.some.inj e ▸ hb)⟩))
           have HO8:=Lib.hid (OwnN.new w12 (w.heap.size + 1) [x_k] (by simp) (by simp) HZ.out #[.int .i64 x_k.kind,.string x_k.text,.int .i64 x_k.num,.slice x_k.a x_k.len x_k.cap] rfl)
           obtain ⟨o9,ho9⟩:=oN x_k
           replace HX:=bA HX o9
           replace HST:=Lib.hid (HST.out.alloc o9)
           replace HT:=tA HT o9
           replace HZ:=zA HZ o9
           subst ho9
           replace HO:=HO8
           clear HO8
           go_wp2_with fail
           (try rw [← (show (World.alloc w12 (.cells #[.int .i64 x_k.kind,.string x_k.text,.int .i64 x_k.num,.slice x_k.a x_k.len x_k.cap] 24)).heap.size = _ from World.size_alloc _ _)])
           generalize (World.alloc w12 (.cells #[.int .i64 x_k.kind,.string x_k.text,.int .i64 x_k.num,.slice x_k.a x_k.len x_k.cap] 24)) = w13 at *
           generalize (World.heap w12).size = g14 at *
           go_wp2_with fail
           refine (pt_node (K:=(fun (t u : Nd) (ls : List Nd) s => (fun (_ _ : Nd) (_ : List Nd) n s => (wantP E.L E.e ⟨#[59]⟩ s).bind fun _ s => (fun (_ _ : Nd) (_ : List Nd) n s => Res.ok n s) nd0 nd0 [] n s) t u [] (.mk 17 ((fun _ _ => ⟨#[]⟩) t u) 0 ls) s)) (sr_ne HQ.out) 17 _ _ _ _ HST.out).mono ?_
           rintro e w15 ⟨rfl,ht9,hst9⟩
           replace HX:=bT HX ht9 NE
           replace HO:=Lib.hid (HO.out.turned ht9 (row_ne HO.out HQ.out))
           replace HZ:=zT HZ ht9
           replace HT:=tT HT ht9
           replace HST:=Lib.hid hst9
           clear ht9 hst9
           replace HST:=Lib.hid (PT.made (K:=(fun (_ _ : Nd) (_ : List Nd) n s => (wantP E.L E.e ⟨#[59]⟩ s).bind fun _ s => (fun (_ _ : Nd) (_ : List Nd) n s => Res.ok n s) nd0 nd0 [] n s)) (S':=SR w (.slice none 0 0)) (fun _ _ => ⟨#[]⟩) (fun _ _ _ _ => rfl) HO.out (fun b h => ⟨h.1,fun e => by cases e⟩) (fun k hk => ⟨row_gt HO.out k hk,fun e => by cases e⟩) HST.out)
           clear HO
           have HO:=Lib.hid (OwnN.nil w15 (w.heap.size + 1))
           replace HST : Hid (PT1 E rr _ (fun (_ _ : Nd) (_ : List Nd) n s => (wantP E.L E.e ⟨#[59]⟩ s).bind fun _ s => (fun (_ _ : Nd) (_ : List Nd) n s => Res.ok n s) nd0 nd0 [] n s) _ _ _ _ _ _):=HST.out
           go_wp2_with fail
           refine (pended_any (sr_ne HQ.out) (Nat.lt_trans HQ.out HZ.out) HST.out).mono ?_
           rintro e w16 ⟨ht9,⟨v9,rfl,rfl,hst9⟩ | ⟨c9,p9,hr9,hc9,rfl⟩⟩
           rotate_left
           ·exact ⟨rfl,HT.out.then ht9,.inr ⟨_,_,hr9,hc9,rfl⟩⟩
           replace HX:=bT HX ht9 NE
           replace HO:=Lib.hid (HO.out.turned ht9 (row_ne HO.out HQ.out))
           replace HZ:=zT HZ ht9
           replace HT:=tT HT ht9
           replace HST:=Lib.hid hst9
           clear ht9 hst9
           replace HST : Hid (PT1 E rr _ (fun (_ _ : Nd) (_ : List Nd) n s => Res.ok n s) _ _ _ _ _ _):=HST.out
           obtain ⟨u0,u1,u2,u3,g0,g1,g2,g3,gl⟩:=HX.out.f4
           go_wp2_with fail
           clear u0 u1 u2 u3 g0 g1 g2 g3 gl
           have HEND:=Lib.hid (pt_end (x:=(⟨17,⟨#[]⟩,0,(some ⟨g14,0,none⟩),1,1⟩ : NV)) HQ.out HT.out HX.out (fun b h => h.1) HST.out rfl)
           refine open_post (fun W => Blk W w.heap.size 24 #[.int .i64 (⟨17,⟨#[]⟩,0,(some ⟨g14,0,none⟩),1,1⟩ : NV).kind,.string (⟨17,⟨#[]⟩,0,(some ⟨g14,0,none⟩),1,1⟩ : NV).text,.int .i64 (⟨17,⟨#[]⟩,0,(some ⟨g14,0,none⟩),1,1⟩ : NV).num,.slice (⟨17,⟨#[]⟩,0,(some ⟨g14,0,none⟩),1,1⟩ : NV).a (⟨17,⟨#[]⟩,0,(some ⟨g14,0,none⟩),1,1⟩ : NV).len (⟨17,⟨#[]⟩,0,(some ⟨g14,0,none⟩),1,1⟩ : NV).cap] ∧ PEnd E rr w (.returned (nvA (⟨17,⟨#[]⟩,0,(some ⟨g14,0,none⟩),1,1⟩ : NV))) W) HEND.out ?_
           rintro W ⟨hb,hE⟩
           obtain ⟨v0,v1,v2,v3,-⟩:=hb.f4
           exact bodyPost_ret (v:=nvA (⟨17,⟨#[]⟩,0,(some ⟨g14,0,none⟩),1,1⟩ : NV)) (by simp [results,Tryz.results94,go_sem,nvA,v0,v1,v2,v3]) rfl hE
          ·rw [a1] at HIS
           by_cases h2 : s9.i + 1 < E.L.length
           ·cases a2 : sameT (textP E.L (stepP s9)) ⟨#[61]⟩
            ·have HRR : Hid (sRest E f s9 = sExp E f 17 s9):=if_neg (by rw [a2];exact fun h => by cases h.2)
             unfold sameT at a2
             have e61 : (⟨#[61]⟩ : ByteArray).toList = [61]:=by decide +kernel
             rw [e61] at a2
             have ha2:=a2
             clear a2 a1 e61
             go_wp2_with fail
             refine HIS.out.mono ?_
             rintro e w17 ⟨rfl,hb9⟩
             have ht9:=Turned.of_below (fun b => b = E.Q) hb9
             replace HAT:=Lib.hid (HAT.out.below hb9)
             replace HLS:=Lib.hid (HLS.out.turned ht9 (sr_ne HQ.out))
             replace HX:=bT HX ht9 NE
             replace HO:=Lib.hid (HO.out.turned ht9 (row_ne HO.out HQ.out))
             replace HZ:=zT HZ ht9
             replace HT:=tT HT ht9
             clear ht9 hb9 HIS
             obtain ⟨b8,o8,c8,hb8,hx8⟩:=HAT.out.second h2
             obtain ⟨z0,z1,z2,z3,z4,z5,z6,z7,zl⟩:=hb8.f4
             have hl8 : (1 : Int) < ((E.L.length - s9.i : Nat) : Int):=by omega
             have hl7 : 1 < E.L.length - s9.i:=by omega
             generalize textP E.L (stepP s9) = t8 at *
             clear hb8
             have HST : Hid (PT E rr w17 (fun (_ _ : Nd) (_ : List Nd) s => sExp E f 17 s) _ _ _ (SR w (.slice none 0 0)) 0):=⟨t9,u9,ls9,s9,HK.out.trans HRR.out,HAT.out,k3,k4,HLS.out,Nat.zero_le _⟩
             clear HAT HLS HK HRR
             replace HST : Hid (PT E rr _ (fun (t u : Nd) (ls : List Nd) s => (run E.L E.e f .expr s).bind fun k s => (fun (_ _ : Nd) (_ : List Nd) k s => endS E (.mk 17 ⟨#[]⟩ 0 [k]) s) t u ls k s) _ _ _ _ _):=HST.out
             go_wp2_with fail
             clear z0 z1 z2 z3 z4 z5 z6 z7 zl hx8
             refine (pt_call (sr_ne HQ.out) ihX HO0.out (fun b hb => ⟨Nat.lt_of_lt_of_le HZ.out hb,fun e => Nat.lt_irrefl _ (Nat.lt_of_lt_of_le (HO.out.lt _ e).2 hb)⟩) HST.out).mono ?_
             rintro e w18 ⟨ht9,⟨v9,rfl,x_k,rfl,hst9⟩ | ⟨c9,p9,hr9,hc9,rfl⟩⟩
             rotate_left
             ·exact ⟨rfl,HT.out.then ht9,.inr ⟨_,_,hr9,hc9,rfl⟩⟩
             replace HX:=bT HX ht9 NE
             replace HO:=Lib.hid (HO.out.turned ht9 (row_ne HO.out HQ.out))
             replace HZ:=zT HZ ht9
             replace HT:=tT HT ht9
             replace HST:=Lib.hid hst9
             clear ht9 hst9
             replace HST : Hid (PT1 E rr _ (fun t u (_ : List Nd) n s => (fun (t u : Nd) (ls : List Nd) s => endS E (.mk 17 ⟨#[]⟩ 0 ls) s) t u [n] s) _ _ _ _ _ _):=HST.out
             replace HST:=Lib.hid (PT1.first (K:=(fun (t u : Nd) (ls : List Nd) s => endS E (.mk 17 ⟨#[]⟩ 0 ls) s)) HST.out)
             replace HST:=Lib.hid (HST.out.weak (S':=SR w (.slice (some ⟨(World.heap w18).size,0,none⟩) 1 1)) (fun b hb h => ⟨h.1,fun e => Nat.lt_irrefl _ (Option.some.inj e ▸ hb)⟩))
             have HO8:=Lib.hid (OwnN.new w18 (w.heap.size + 1) [x_k] (by simp) (by simp) HZ.out #[.int .i64 x_k.kind,.string x_k.text,.int .i64 x_k.num,.slice x_k.a x_k.len x_k.cap] rfl)
             obtain ⟨o9,ho9⟩:=oN x_k
             replace HX:=bA HX o9
             replace HST:=Lib.hid (HST.out.alloc o9)
             replace HT:=tA HT o9
             replace HZ:=zA HZ o9
             subst ho9
             replace HO:=HO8
             clear HO8
             go_wp2_with fail
             (try rw [← (show (World.alloc w18 (.cells #[.int .i64 x_k.kind,.string x_k.text,.int .i64 x_k.num,.slice x_k.a x_k.len x_k.cap] 24)).heap.size = _ from World.size_alloc _ _)])
             generalize (World.alloc w18 (.cells #[.int .i64 x_k.kind,.string x_k.text,.int .i64 x_k.num,.slice x_k.a x_k.len x_k.cap] 24)) = w19 at *
             generalize (World.heap w18).size = g20 at *
             go_wp2_with fail
             refine (pt_node (K:=(fun (t u : Nd) (ls : List Nd) s => (fun (_ _ : Nd) (_ : List Nd) n s => (wantP E.L E.e ⟨#[59]⟩ s).bind fun _ s => (fun (_ _ : Nd) (_ : List Nd) n s => Res.ok n s) nd0 nd0 [] n s) t u [] (.mk 17 ((fun _ _ => ⟨#[]⟩) t u) 0 ls) s)) (sr_ne HQ.out) 17 _ _ _ _ HST.out).mono ?_
             rintro e w21 ⟨rfl,ht9,hst9⟩
             replace HX:=bT HX ht9 NE
             replace HO:=Lib.hid (HO.out.turned ht9 (row_ne HO.out HQ.out))
             replace HZ:=zT HZ ht9
             replace HT:=tT HT ht9
             replace HST:=Lib.hid hst9
             clear ht9 hst9
             replace HST:=Lib.hid (PT.made (K:=(fun (_ _ : Nd) (_ : List Nd) n s => (wantP E.L E.e ⟨#[59]⟩ s).bind fun _ s => (fun (_ _ : Nd) (_ : List Nd) n s => Res.ok n s) nd0 nd0 [] n s)) (S':=SR w (.slice none 0 0)) (fun _ _ => ⟨#[]⟩) (fun _ _ _ _ => rfl) HO.out (fun b h => ⟨h.1,fun e => by cases e⟩) (fun k hk => ⟨row_gt HO.out k hk,fun e => by cases e⟩) HST.out)
             clear HO
             have HO:=Lib.hid (OwnN.nil w21 (w.heap.size + 1))
             replace HST : Hid (PT1 E rr _ (fun (_ _ : Nd) (_ : List Nd) n s => (wantP E.L E.e ⟨#[59]⟩ s).bind fun _ s => (fun (_ _ : Nd) (_ : List Nd) n s => Res.ok n s) nd0 nd0 [] n s) _ _ _ _ _ _):=HST.out
             go_wp2_with fail
             refine (pended_any (sr_ne HQ.out) (Nat.lt_trans HQ.out HZ.out) HST.out).mono ?_
             rintro e w22 ⟨ht9,⟨v9,rfl,rfl,hst9⟩ | ⟨c9,p9,hr9,hc9,rfl⟩⟩
             rotate_left
             ·exact ⟨rfl,HT.out.then ht9,.inr ⟨_,_,hr9,hc9,rfl⟩⟩
             replace HX:=bT HX ht9 NE
             replace HO:=Lib.hid (HO.out.turned ht9 (row_ne HO.out HQ.out))
             replace HZ:=zT HZ ht9
             replace HT:=tT HT ht9
             replace HST:=Lib.hid hst9
             clear ht9 hst9
             replace HST : Hid (PT1 E rr _ (fun (_ _ : Nd) (_ : List Nd) n s => Res.ok n s) _ _ _ _ _ _):=HST.out
             obtain ⟨u0,u1,u2,u3,g0,g1,g2,g3,gl⟩:=HX.out.f4
             go_wp2_with fail
             clear u0 u1 u2 u3 g0 g1 g2 g3 gl
             have HEND:=Lib.hid (pt_end (x:=(⟨17,⟨#[]⟩,0,(some ⟨g20,0,none⟩),1,1⟩ : NV)) HQ.out HT.out HX.out (fun b h => h.1) HST.out rfl)
             refine open_post (fun W => Blk W w.heap.size 24 #[.int .i64 (⟨17,⟨#[]⟩,0,(some ⟨g20,0,none⟩),1,1⟩ : NV).kind,.string (⟨17,⟨#[]⟩,0,(some ⟨g20,0,none⟩),1,1⟩ : NV).text,.int .i64 (⟨17,⟨#[]⟩,0,(some ⟨g20,0,none⟩),1,1⟩ : NV).num,.slice (⟨17,⟨#[]⟩,0,(some ⟨g20,0,none⟩),1,1⟩ : NV).a (⟨17,⟨#[]⟩,0,(some ⟨g20,0,none⟩),1,1⟩ : NV).len (⟨17,⟨#[]⟩,0,(some ⟨g20,0,none⟩),1,1⟩ : NV).cap] ∧ PEnd E rr w (.returned (nvA (⟨17,⟨#[]⟩,0,(some ⟨g20,0,none⟩),1,1⟩ : NV))) W) HEND.out ?_
             rintro W ⟨hb,hE⟩
             obtain ⟨v0,v1,v2,v3,-⟩:=hb.f4
             exact bodyPost_ret (v:=nvA (⟨17,⟨#[]⟩,0,(some ⟨g20,0,none⟩),1,1⟩ : NV)) (by simp [results,Tryz.results94,go_sem,nvA,v0,v1,v2,v3]) rfl hE
            ·have HRR : Hid (sRest E f s9 = sSet E f s9):=if_pos ⟨a1,a2⟩
             unfold sameT at a2
             have e61 : (⟨#[61]⟩ : ByteArray).toList = [61]:=by decide +kernel
             rw [e61] at a2
             have ha2:=a2
             clear a2 a1 e61
             go_wp2_with fail
             refine HIS.out.mono ?_
             rintro e w23 ⟨rfl,hb9⟩
             have ht9:=Turned.of_below (fun b => b = E.Q) hb9
             replace HAT:=Lib.hid (HAT.out.below hb9)
             replace HLS:=Lib.hid (HLS.out.turned ht9 (sr_ne HQ.out))
             replace HX:=bT HX ht9 NE
             replace HO:=Lib.hid (HO.out.turned ht9 (row_ne HO.out HQ.out))
             replace HZ:=zT HZ ht9
             replace HT:=tT HT ht9
             clear ht9 hb9 HIS
             obtain ⟨b8,o8,c8,hb8,hx8⟩:=HAT.out.second h2
             obtain ⟨z0,z1,z2,z3,z4,z5,z6,z7,zl⟩:=hb8.f4
             have hl8 : (1 : Int) < ((E.L.length - s9.i : Nat) : Int):=by omega
             have hl7 : 1 < E.L.length - s9.i:=by omega
             generalize textP E.L (stepP s9) = t8 at *
             clear hb8
             have HST : Hid (PT E rr w23 (fun (_ _ : Nd) (_ : List Nd) s => sSet E f s) _ _ _ (SR w (.slice none 0 0)) 0):=⟨t9,u9,ls9,s9,HK.out.trans HRR.out,HAT.out,k3,k4,HLS.out,Nat.zero_le _⟩
             clear HAT HLS HK HRR
             replace HST : Hid (PT E rr _ (fun (_ u : Nd) (ls : List Nd) s => (nameP E.L E.e s).bind fun t s => (fun (t u : Nd) (ls : List Nd) s => (wantP E.L E.e ⟨#[61]⟩ s).bind fun _ s => (fun (t u : Nd) (ls : List Nd) s => (run E.L E.e f .expr s).bind fun k s => (fun (t _ : Nd) (_ : List Nd) k s => endS E (.mk 8 t.text 0 [k]) s) t u ls k s) t u ls s) t u ls s) _ _ _ _ _):=HST.out
             go_wp2_with fail
             clear z0 z1 z2 z3 z4 z5 z6 z7 zl hx8
             refine (pt_name1 (sr_ne HQ.out) HST.out).mono ?_
             rintro e w24 ⟨ht9,⟨v9,rfl,t,rfl,hst9⟩ | ⟨c9,p9,hr9,hc9,rfl⟩⟩
             rotate_left
             ·exact ⟨rfl,HT.out.then ht9,.inr ⟨_,_,hr9,hc9,rfl⟩⟩
             replace HX:=bT HX ht9 NE
             replace HO:=Lib.hid (HO.out.turned ht9 (row_ne HO.out HQ.out))
             replace HZ:=zT HZ ht9
             replace HT:=tT HT ht9
             replace HST:=Lib.hid hst9
             clear ht9 hst9
             go_wp2_with fail
             have HB_k25:=Lib.hid (Blk.new w24 9 #[.string ⟨#[61]⟩])
             have NB_k25:=nE HQ HZ
             have HG_k25 : Hid (w.heap.size < (World.heap w24).size):=HZ.out
             replace HX:=bA HX (.cells #[.string ⟨#[61]⟩] 9)
             replace HO:=oA HO (.cells #[.string ⟨#[61]⟩] 9)
             replace HST:=Lib.hid (HST.out.alloc (.cells #[.string ⟨#[61]⟩] 9))
             replace HT:=tA HT (.cells #[.string ⟨#[61]⟩] 9)
             replace HZ:=zA HZ (.cells #[.string ⟨#[61]⟩] 9)
             go_wp2_with fail
             (try rw [← (show (World.alloc w24 (.cells #[.string ⟨#[61]⟩] 9)).heap.size = _ from World.size_alloc _ _)])
             generalize (World.alloc w24 (.cells #[.string ⟨#[61]⟩] 9)) = w26 at *
             generalize (World.heap w24).size = b_k25 at *
             refine (pt_want (sr_ne HQ.out) (g:=b_k25) _ HB_k25.out.f1.1 NB_k25.out HB_k25.out.lt HST.out).mono ?_
             rintro e w27 ⟨ht9,⟨v9,rfl,rfl,hst9⟩ | ⟨c9,p9,hr9,hc9,rfl⟩⟩
             rotate_left
             ·exact ⟨rfl,HT.out.then ht9,.inr ⟨_,_,hr9,hc9,rfl⟩⟩
             clear HB_k25 NB_k25 HG_k25
             replace HX:=bT HX ht9 NE
             replace HO:=Lib.hid (HO.out.turned ht9 (row_ne HO.out HQ.out))
             replace HZ:=zT HZ ht9
             replace HT:=tT HT ht9
             replace HST:=Lib.hid hst9
             clear ht9 hst9
             go_wp2_with fail
             refine (pt_call (sr_ne HQ.out) ihX HO0.out (fun b hb => ⟨Nat.lt_of_lt_of_le HZ.out hb,fun e => Nat.lt_irrefl _ (Nat.lt_of_lt_of_le (HO.out.lt _ e).2 hb)⟩) HST.out).mono ?_
             rintro e w28 ⟨ht9,⟨v9,rfl,x_k,rfl,hst9⟩ | ⟨c9,p9,hr9,hc9,rfl⟩⟩
             rotate_left
             ·exact ⟨rfl,HT.out.then ht9,.inr ⟨_,_,hr9,hc9,rfl⟩⟩
             replace HX:=bT HX ht9 NE
             replace HO:=Lib.hid (HO.out.turned ht9 (row_ne HO.out HQ.out))
             replace HZ:=zT HZ ht9
             replace HT:=tT HT ht9
             replace HST:=Lib.hid hst9
             clear ht9 hst9
             replace HST : Hid (PT1 E rr _ (fun t u (_ : List Nd) n s => (fun (t u : Nd) (ls : List Nd) s => endS E (.mk 8 t.text 0 ls) s) t u [n] s) _ _ _ _ _ _):=HST.out
             replace HST:=Lib.hid (PT1.first (K:=(fun (t u : Nd) (ls : List Nd) s => endS E (.mk 8 t.text 0 ls) s)) HST.out)
             replace HST:=Lib.hid (HST.out.weak (S':=SR w (.slice (some ⟨(World.heap w28).size,0,none⟩) 1 1)) (fun b hb h => ⟨h.1,fun e => Nat.lt_irrefl _ (Option.some.inj e ▸ hb)⟩))
             have HO8:=Lib.hid (OwnN.new w28 (w.heap.size + 1) [x_k] (by simp) (by simp) HZ.out #[.int .i64 x_k.kind,.string x_k.text,.int .i64 x_k.num,.slice x_k.a x_k.len x_k.cap] rfl)
             obtain ⟨o9,ho9⟩:=oN x_k
             replace HX:=bA HX o9
             replace HST:=Lib.hid (HST.out.alloc o9)
             replace HT:=tA HT o9
             replace HZ:=zA HZ o9
             subst ho9
             replace HO:=HO8
             clear HO8
             go_wp2_with fail
             (try rw [← (show (World.alloc w28 (.cells #[.int .i64 x_k.kind,.string x_k.text,.int .i64 x_k.num,.slice x_k.a x_k.len x_k.cap] 24)).heap.size = _ from World.size_alloc _ _)])
             generalize (World.alloc w28 (.cells #[.int .i64 x_k.kind,.string x_k.text,.int .i64 x_k.num,.slice x_k.a x_k.len x_k.cap] 24)) = w29 at *
             generalize (World.heap w28).size = g30 at *
             go_wp2_with fail
             refine (pt_node (K:=(fun (t u : Nd) (ls : List Nd) s => (fun (_ _ : Nd) (_ : List Nd) n s => (wantP E.L E.e ⟨#[59]⟩ s).bind fun _ s => (fun (_ _ : Nd) (_ : List Nd) n s => Res.ok n s) nd0 nd0 [] n s) t u [] (.mk 8 ((fun (t _ : Nd) => t.text) t u) 0 ls) s)) (sr_ne HQ.out) 8 _ _ _ _ HST.out).mono ?_
             rintro e w31 ⟨rfl,ht9,hst9⟩
             replace HX:=bT HX ht9 NE
             replace HO:=Lib.hid (HO.out.turned ht9 (row_ne HO.out HQ.out))
             replace HZ:=zT HZ ht9
             replace HT:=tT HT ht9
             replace HST:=Lib.hid hst9
             clear ht9 hst9
             replace HST:=Lib.hid (PT.made (K:=(fun (_ _ : Nd) (_ : List Nd) n s => (wantP E.L E.e ⟨#[59]⟩ s).bind fun _ s => (fun (_ _ : Nd) (_ : List Nd) n s => Res.ok n s) nd0 nd0 [] n s)) (S':=SR w (.slice none 0 0)) (fun (t _ : Nd) => t.text) (fun _ _ h _ => h.symm) HO.out (fun b h => ⟨h.1,fun e => by cases e⟩) (fun k hk => ⟨row_gt HO.out k hk,fun e => by cases e⟩) HST.out)
             clear HO
             have HO:=Lib.hid (OwnN.nil w31 (w.heap.size + 1))
             replace HST : Hid (PT1 E rr _ (fun (_ _ : Nd) (_ : List Nd) n s => (wantP E.L E.e ⟨#[59]⟩ s).bind fun _ s => (fun (_ _ : Nd) (_ : List Nd) n s => Res.ok n s) nd0 nd0 [] n s) _ _ _ _ _ _):=HST.out
             go_wp2_with fail
             refine (pended_any (sr_ne HQ.out) (Nat.lt_trans HQ.out HZ.out) HST.out).mono ?_
             rintro e w32 ⟨ht9,⟨v9,rfl,rfl,hst9⟩ | ⟨c9,p9,hr9,hc9,rfl⟩⟩
             rotate_left
             ·exact ⟨rfl,HT.out.then ht9,.inr ⟨_,_,hr9,hc9,rfl⟩⟩
             replace HX:=bT HX ht9 NE
             replace HO:=Lib.hid (HO.out.turned ht9 (row_ne HO.out HQ.out))
             replace HZ:=zT HZ ht9
             replace HT:=tT HT ht9
             replace HST:=Lib.hid hst9
             clear ht9 hst9
             replace HST : Hid (PT1 E rr _ (fun (_ _ : Nd) (_ : List Nd) n s => Res.ok n s) _ _ _ _ _ _):=HST.out
             obtain ⟨u0,u1,u2,u3,g0,g1,g2,g3,gl⟩:=HX.out.f4
             go_wp2_with fail
             clear u0 u1 u2 u3 g0 g1 g2 g3 gl
             have HEND:=Lib.hid (pt_end (x:=(⟨8,t,0,(some ⟨g30,0,none⟩),1,1⟩ : NV)) HQ.out HT.out HX.out (fun b h => h.1) HST.out rfl)
             refine open_post (fun W => Blk W w.heap.size 24 #[.int .i64 (⟨8,t,0,(some ⟨g30,0,none⟩),1,1⟩ : NV).kind,.string (⟨8,t,0,(some ⟨g30,0,none⟩),1,1⟩ : NV).text,.int .i64 (⟨8,t,0,(some ⟨g30,0,none⟩),1,1⟩ : NV).num,.slice (⟨8,t,0,(some ⟨g30,0,none⟩),1,1⟩ : NV).a (⟨8,t,0,(some ⟨g30,0,none⟩),1,1⟩ : NV).len (⟨8,t,0,(some ⟨g30,0,none⟩),1,1⟩ : NV).cap] ∧ PEnd E rr w (.returned (nvA (⟨8,t,0,(some ⟨g30,0,none⟩),1,1⟩ : NV))) W) HEND.out ?_
             rintro W ⟨hb,hE⟩
             obtain ⟨v0,v1,v2,v3,-⟩:=hb.f4
             exact bodyPost_ret (v:=nvA (⟨8,t,0,(some ⟨g30,0,none⟩),1,1⟩ : NV)) (by simp [results,Tryz.results94,go_sem,nvA,v0,v1,v2,v3]) rfl hE
           ·have HRR : Hid (sRest E f s9 = sExp E f 17 s9):=if_neg (fun h => by
   have e : textP E.L (stepP s9) = ByteArray.empty:=by unfold textP;rw [List.getElem?_eq_none (by show E.L.length ≤ s9.i + 1;omega)]
   rw [e] at h
   exact absurd h.2 (by decide +kernel))
            clear a1
            go_wp2_with fail
            refine HIS.out.mono ?_
            rintro e w33 ⟨rfl,hb9⟩
            have ht9:=Turned.of_below (fun b => b = E.Q) hb9
            replace HAT:=Lib.hid (HAT.out.below hb9)
            replace HLS:=Lib.hid (HLS.out.turned ht9 (sr_ne HQ.out))
            replace HX:=bT HX ht9 NE
            replace HO:=Lib.hid (HO.out.turned ht9 (row_ne HO.out HQ.out))
            replace HZ:=zT HZ ht9
            replace HT:=tT HT ht9
            clear ht9 hb9 HIS
            obtain ⟨A8,c8,-,-,-,hb8⟩:=HAT.out.lies
            obtain ⟨z0,z1,z2,z3,z4,z5,z6,z7,zl⟩:=hb8.f4
            have hl8 : decide ((1 : Int) < ((E.L.length - s9.i : Nat) : Int)) = false:=by simp;omega
            clear hb8
            have HST : Hid (PT E rr w33 (fun (_ _ : Nd) (_ : List Nd) s => sExp E f 17 s) _ _ _ (SR w (.slice none 0 0)) 0):=⟨t9,u9,ls9,s9,HK.out.trans HRR.out,HAT.out,k3,k4,HLS.out,Nat.zero_le _⟩
            clear HAT HLS HK HRR
            replace HST : Hid (PT E rr _ (fun (t u : Nd) (ls : List Nd) s => (run E.L E.e f .expr s).bind fun k s => (fun (_ _ : Nd) (_ : List Nd) k s => endS E (.mk 17 ⟨#[]⟩ 0 [k]) s) t u ls k s) _ _ _ _ _):=HST.out
            go_wp2_with fail
            clear z0 z1 z2 z3 z4 z5 z6 z7 zl
            refine (pt_call (sr_ne HQ.out) ihX HO0.out (fun b hb => ⟨Nat.lt_of_lt_of_le HZ.out hb,fun e => Nat.lt_irrefl _ (Nat.lt_of_lt_of_le (HO.out.lt _ e).2 hb)⟩) HST.out).mono ?_
            rintro e w34 ⟨ht9,⟨v9,rfl,x_k,rfl,hst9⟩ | ⟨c9,p9,hr9,hc9,rfl⟩⟩
            rotate_left
            ·exact ⟨rfl,HT.out.then ht9,.inr ⟨_,_,hr9,hc9,rfl⟩⟩
            replace HX:=bT HX ht9 NE
            replace HO:=Lib.hid (HO.out.turned ht9 (row_ne HO.out HQ.out))
            replace HZ:=zT HZ ht9
            replace HT:=tT HT ht9
            replace HST:=Lib.hid hst9
            clear ht9 hst9
            replace HST : Hid (PT1 E rr _ (fun t u (_ : List Nd) n s => (fun (t u : Nd) (ls : List Nd) s => endS E (.mk 17 ⟨#[]⟩ 0 ls) s) t u [n] s) _ _ _ _ _ _):=HST.out
            replace HST:=Lib.hid (PT1.first (K:=(fun (t u : Nd) (ls : List Nd) s => endS E (.mk 17 ⟨#[]⟩ 0 ls) s)) HST.out)
            replace HST:=Lib.hid (HST.out.weak (S':=SR w (.slice (some ⟨(World.heap w34).size,0,none⟩) 1 1)) (fun b hb h => ⟨h.1,fun e => Nat.lt_irrefl _ (Option.some.inj e ▸ hb)⟩))
            have HO8:=Lib.hid (OwnN.new w34 (w.heap.size + 1) [x_k] (by simp) (by simp) HZ.out #[.int .i64 x_k.kind,.string x_k.text,.int .i64 x_k.num,.slice x_k.a x_k.len x_k.cap] rfl)
            obtain ⟨o9,ho9⟩:=oN x_k
            replace HX:=bA HX o9
            replace HST:=Lib.hid (HST.out.alloc o9)
            replace HT:=tA HT o9
            replace HZ:=zA HZ o9
            subst ho9
            replace HO:=HO8
            clear HO8
            go_wp2_with fail
            (try rw [← (show (World.alloc w34 (.cells #[.int .i64 x_k.kind,.string x_k.text,.int .i64 x_k.num,.slice x_k.a x_k.len x_k.cap] 24)).heap.size = _ from World.size_alloc _ _)])
            generalize (World.alloc w34 (.cells #[.int .i64 x_k.kind,.string x_k.text,.int .i64 x_k.num,.slice x_k.a x_k.len x_k.cap] 24)) = w35 at *
            generalize (World.heap w34).size = g36 at *
            go_wp2_with fail
            refine (pt_node (K:=(fun (t u : Nd) (ls : List Nd) s => (fun (_ _ : Nd) (_ : List Nd) n s => (wantP E.L E.e ⟨#[59]⟩ s).bind fun _ s => (fun (_ _ : Nd) (_ : List Nd) n s => Res.ok n s) nd0 nd0 [] n s) t u [] (.mk 17 ((fun _ _ => ⟨#[]⟩) t u) 0 ls) s)) (sr_ne HQ.out) 17 _ _ _ _ HST.out).mono ?_
            rintro e w37 ⟨rfl,ht9,hst9⟩
            replace HX:=bT HX ht9 NE
            replace HO:=Lib.hid (HO.out.turned ht9 (row_ne HO.out HQ.out))
            replace HZ:=zT HZ ht9
            replace HT:=tT HT ht9
            replace HST:=Lib.hid hst9
            clear ht9 hst9
            replace HST:=Lib.hid (PT.made (K:=(fun (_ _ : Nd) (_ : List Nd) n s => (wantP E.L E.e ⟨#[59]⟩ s).bind fun _ s => (fun (_ _ : Nd) (_ : List Nd) n s => Res.ok n s) nd0 nd0 [] n s)) (S':=SR w (.slice none 0 0)) (fun _ _ => ⟨#[]⟩) (fun _ _ _ _ => rfl) HO.out (fun b h => ⟨h.1,fun e => by cases e⟩) (fun k hk => ⟨row_gt HO.out k hk,fun e => by cases e⟩) HST.out)
            clear HO
            have HO:=Lib.hid (OwnN.nil w37 (w.heap.size + 1))
            replace HST : Hid (PT1 E rr _ (fun (_ _ : Nd) (_ : List Nd) n s => (wantP E.L E.e ⟨#[59]⟩ s).bind fun _ s => (fun (_ _ : Nd) (_ : List Nd) n s => Res.ok n s) nd0 nd0 [] n s) _ _ _ _ _ _):=HST.out
            go_wp2_with fail
            refine (pended_any (sr_ne HQ.out) (Nat.lt_trans HQ.out HZ.out) HST.out).mono ?_
            rintro e w38 ⟨ht9,⟨v9,rfl,rfl,hst9⟩ | ⟨c9,p9,hr9,hc9,rfl⟩⟩
            rotate_left
            ·exact ⟨rfl,HT.out.then ht9,.inr ⟨_,_,hr9,hc9,rfl⟩⟩
            replace HX:=bT HX ht9 NE
            replace HO:=Lib.hid (HO.out.turned ht9 (row_ne HO.out HQ.out))
            replace HZ:=zT HZ ht9
            replace HT:=tT HT ht9
            replace HST:=Lib.hid hst9
            clear ht9 hst9
            replace HST : Hid (PT1 E rr _ (fun (_ _ : Nd) (_ : List Nd) n s => Res.ok n s) _ _ _ _ _ _):=HST.out
            obtain ⟨u0,u1,u2,u3,g0,g1,g2,g3,gl⟩:=HX.out.f4
            go_wp2_with fail
            clear u0 u1 u2 u3 g0 g1 g2 g3 gl
            have HEND:=Lib.hid (pt_end (x:=(⟨17,⟨#[]⟩,0,(some ⟨g36,0,none⟩),1,1⟩ : NV)) HQ.out HT.out HX.out (fun b h => h.1) HST.out rfl)
            refine open_post (fun W => Blk W w.heap.size 24 #[.int .i64 (⟨17,⟨#[]⟩,0,(some ⟨g36,0,none⟩),1,1⟩ : NV).kind,.string (⟨17,⟨#[]⟩,0,(some ⟨g36,0,none⟩),1,1⟩ : NV).text,.int .i64 (⟨17,⟨#[]⟩,0,(some ⟨g36,0,none⟩),1,1⟩ : NV).num,.slice (⟨17,⟨#[]⟩,0,(some ⟨g36,0,none⟩),1,1⟩ : NV).a (⟨17,⟨#[]⟩,0,(some ⟨g36,0,none⟩),1,1⟩ : NV).len (⟨17,⟨#[]⟩,0,(some ⟨g36,0,none⟩),1,1⟩ : NV).cap] ∧ PEnd E rr w (.returned (nvA (⟨17,⟨#[]⟩,0,(some ⟨g36,0,none⟩),1,1⟩ : NV))) W) HEND.out ?_
            rintro W ⟨hb,hE⟩
            obtain ⟨v0,v1,v2,v3,-⟩:=hb.f4
            exact bodyPost_ret (v:=nvA (⟨17,⟨#[]⟩,0,(some ⟨g36,0,none⟩),1,1⟩ : NV)) (by simp [results,Tryz.results94,go_sem,nvA,v0,v1,v2,v3]) rfl hE
         ·have HST:=Lib.hid (hy9 rfl)
          clear hy9 hn9
          replace HST : Hid (PT E rr _ (fun (t u : Nd) (ls : List Nd) s => (wantP E.L E.e ⟨#[40]⟩ s).bind fun _ s => (fun (t u : Nd) (ls : List Nd) s => (run E.L E.e f .expr s).bind fun k s => (fun (t u : Nd) (_ : List Nd) k s => (fun (t u : Nd) (ls : List Nd) s => (wantP E.L E.e ⟨#[44]⟩ s).bind fun _ s => (fun (t u : Nd) (ls : List Nd) s => (run E.L E.e f .expr s).bind fun m s => (fun t u ls m s => (fun (t u : Nd) (ls : List Nd) s => (wantP E.L E.e ⟨#[41]⟩ s).bind fun _ s => (fun (_ _ : Nd) (ls : List Nd) s => endS E (.mk 16 ⟨#[]⟩ 0 ls) s) t u ls s) t u (ls ++ [m]) s) t u ls m s) t u ls s) t u [k] s) t u ls k s) t u ls s) _ _ _ _ _):=HST.out
          go_wp2_with fail
          have HB_k39:=Lib.hid (Blk.new w10 9 #[.string ⟨#[40]⟩])
          have NB_k39:=nE HQ HZ
          have HG_k39 : Hid (w.heap.size < (World.heap w10).size):=HZ.out
          replace HX:=bA HX (.cells #[.string ⟨#[40]⟩] 9)
          replace HO:=oA HO (.cells #[.string ⟨#[40]⟩] 9)
          replace HST:=Lib.hid (HST.out.alloc (.cells #[.string ⟨#[40]⟩] 9))
          replace HT:=tA HT (.cells #[.string ⟨#[40]⟩] 9)
          replace HZ:=zA HZ (.cells #[.string ⟨#[40]⟩] 9)
          go_wp2_with fail
          (try rw [← (show (World.alloc w10 (.cells #[.string ⟨#[40]⟩] 9)).heap.size = _ from World.size_alloc _ _)])
          generalize (World.alloc w10 (.cells #[.string ⟨#[40]⟩] 9)) = w40 at *
          generalize (World.heap w10).size = b_k39 at *
          refine (pt_want (sr_ne HQ.out) (g:=b_k39) _ HB_k39.out.f1.1 NB_k39.out HB_k39.out.lt HST.out).mono ?_
          rintro e w41 ⟨ht9,⟨v9,rfl,rfl,hst9⟩ | ⟨c9,p9,hr9,hc9,rfl⟩⟩
          rotate_left
          ·exact ⟨rfl,HT.out.then ht9,.inr ⟨_,_,hr9,hc9,rfl⟩⟩
          clear HB_k39 NB_k39 HG_k39
          replace HX:=bT HX ht9 NE
          replace HO:=Lib.hid (HO.out.turned ht9 (row_ne HO.out HQ.out))
          replace HZ:=zT HZ ht9
          replace HT:=tT HT ht9
          replace HST:=Lib.hid hst9
          clear ht9 hst9
          go_wp2_with fail
          refine (pt_call (sr_ne HQ.out) ihX HO0.out (fun b hb => ⟨Nat.lt_of_lt_of_le HZ.out hb,fun e => Nat.lt_irrefl _ (Nat.lt_of_lt_of_le (HO.out.lt _ e).2 hb)⟩) HST.out).mono ?_
          rintro e w42 ⟨ht9,⟨v9,rfl,x_k,rfl,hst9⟩ | ⟨c9,p9,hr9,hc9,rfl⟩⟩
          rotate_left
          ·exact ⟨rfl,HT.out.then ht9,.inr ⟨_,_,hr9,hc9,rfl⟩⟩
          replace HX:=bT HX ht9 NE
          replace HO:=Lib.hid (HO.out.turned ht9 (row_ne HO.out HQ.out))
          replace HZ:=zT HZ ht9
          replace HT:=tT HT ht9
          replace HST:=Lib.hid hst9
          clear ht9 hst9
          replace HST : Hid (PT1 E rr _ (fun t u (_ : List Nd) n s => (fun (t u : Nd) (ls : List Nd) s => (wantP E.L E.e ⟨#[44]⟩ s).bind fun _ s => (fun (t u : Nd) (ls : List Nd) s => (run E.L E.e f .expr s).bind fun m s => (fun t u ls m s => (fun (t u : Nd) (ls : List Nd) s => (wantP E.L E.e ⟨#[41]⟩ s).bind fun _ s => (fun (_ _ : Nd) (ls : List Nd) s => endS E (.mk 16 ⟨#[]⟩ 0 ls) s) t u ls s) t u (ls ++ [m]) s) t u ls m s) t u ls s) t u [n] s) _ _ _ _ _ _):=HST.out
          replace HST:=Lib.hid (PT1.first (K:=(fun (t u : Nd) (ls : List Nd) s => (wantP E.L E.e ⟨#[44]⟩ s).bind fun _ s => (fun (t u : Nd) (ls : List Nd) s => (run E.L E.e f .expr s).bind fun m s => (fun t u ls m s => (fun (t u : Nd) (ls : List Nd) s => (wantP E.L E.e ⟨#[41]⟩ s).bind fun _ s => (fun (_ _ : Nd) (ls : List Nd) s => endS E (.mk 16 ⟨#[]⟩ 0 ls) s) t u ls s) t u (ls ++ [m]) s) t u ls m s) t u ls s)) HST.out)
          replace HST:=Lib.hid (HST.out.weak (S':=SR w (.slice (some ⟨(World.heap w42).size,0,none⟩) 1 1)) (fun b hb h => ⟨h.1,fun e => Nat.lt_irrefl _ (Option.some.inj e ▸ hb)⟩))
          have HO8:=Lib.hid (OwnN.new w42 (w.heap.size + 1) [x_k] (by simp) (by simp) HZ.out #[.int .i64 x_k.kind,.string x_k.text,.int .i64 x_k.num,.slice x_k.a x_k.len x_k.cap] rfl)
          obtain ⟨o9,ho9⟩:=oN x_k
          replace HX:=bA HX o9
          replace HST:=Lib.hid (HST.out.alloc o9)
          replace HT:=tA HT o9
          replace HZ:=zA HZ o9
          subst ho9
          replace HO:=HO8
          clear HO8
          go_wp2_with fail
          (try rw [← (show (World.alloc w42 (.cells #[.int .i64 x_k.kind,.string x_k.text,.int .i64 x_k.num,.slice x_k.a x_k.len x_k.cap] 24)).heap.size = _ from World.size_alloc _ _)])
          generalize (World.alloc w42 (.cells #[.int .i64 x_k.kind,.string x_k.text,.int .i64 x_k.num,.slice x_k.a x_k.len x_k.cap] 24)) = w43 at *
          generalize (World.heap w42).size = g44 at *
          have HB_k45:=Lib.hid (Blk.new w43 9 #[.string ⟨#[44]⟩])
          have NB_k45:=nE HQ HZ
          have HG_k45 : Hid (w.heap.size < (World.heap w43).size):=HZ.out
          replace HX:=bA HX (.cells #[.string ⟨#[44]⟩] 9)
          replace HO:=oA HO (.cells #[.string ⟨#[44]⟩] 9)
          replace HST:=Lib.hid (HST.out.alloc (.cells #[.string ⟨#[44]⟩] 9))
          replace HT:=tA HT (.cells #[.string ⟨#[44]⟩] 9)
          replace HZ:=zA HZ (.cells #[.string ⟨#[44]⟩] 9)
          go_wp2_with fail
          (try rw [← (show (World.alloc w43 (.cells #[.string ⟨#[44]⟩] 9)).heap.size = _ from World.size_alloc _ _)])
          generalize (World.alloc w43 (.cells #[.string ⟨#[44]⟩] 9)) = w46 at *
          generalize (World.heap w43).size = b_k45 at *
          refine (pt_want (sr_ne HQ.out) (g:=b_k45) _ HB_k45.out.f1.1 NB_k45.out HB_k45.out.lt HST.out).mono ?_
          rintro e w47 ⟨ht9,⟨v9,rfl,rfl,hst9⟩ | ⟨c9,p9,hr9,hc9,rfl⟩⟩
          rotate_left
          ·exact ⟨rfl,HT.out.then ht9,.inr ⟨_,_,hr9,hc9,rfl⟩⟩
          clear HB_k45 NB_k45 HG_k45
          replace HX:=bT HX ht9 NE
          replace HO:=Lib.hid (HO.out.turned ht9 (row_ne HO.out HQ.out))
          replace HZ:=zT HZ ht9
          replace HT:=tT HT ht9
          replace HST:=Lib.hid hst9
          clear ht9 hst9
          replace HST : Hid (PT E rr _ (fun (t u : Nd) (ls : List Nd) s => (run E.L E.e f .expr s).bind fun m s => (fun t u ls m s => (fun (t u : Nd) (ls : List Nd) s => (wantP E.L E.e ⟨#[41]⟩ s).bind fun _ s => (fun (_ _ : Nd) (ls : List Nd) s => endS E (.mk 16 ⟨#[]⟩ 0 ls) s) t u ls s) t u (ls ++ [m]) s) t u ls m s) _ _ _ _ _):=HST.out
          go_wp2_with fail
          refine (pt_call (sr_ne HQ.out) ihX HO0.out (fun b hb => ⟨Nat.lt_of_lt_of_le HZ.out hb,fun e => Nat.lt_irrefl _ (Nat.lt_of_lt_of_le (HO.out.lt _ e).2 hb)⟩) HST.out).mono ?_
          rintro e w48 ⟨ht9,⟨v9,rfl,x_m,rfl,hst9⟩ | ⟨c9,p9,hr9,hc9,rfl⟩⟩
          rotate_left
          ·exact ⟨rfl,HT.out.then ht9,.inr ⟨_,_,hr9,hc9,rfl⟩⟩
          replace HX:=bT HX ht9 NE
          replace HO:=Lib.hid (HO.out.turned ht9 (row_ne HO.out HQ.out))
          replace HZ:=zT HZ ht9
          replace HT:=tT HT ht9
          replace HST:=Lib.hid hst9
          clear ht9 hst9
          replace HST : Hid (PT1 E rr _ (fun t u ls m s => (fun (t u : Nd) (ls : List Nd) s => (wantP E.L E.e ⟨#[41]⟩ s).bind fun _ s => (fun (_ _ : Nd) (ls : List Nd) s => endS E (.mk 16 ⟨#[]⟩ 0 ls) s) t u ls s) t u (ls ++ [m]) s) _ _ _ _ _ _):=HST.out
          have HZ0:=HZ
          obtain ⟨o9,ho9⟩:=oN x_m
          replace HX:=bA HX o9
          replace HO:=oA HO o9
          replace HST:=Lib.hid (HST.out.alloc o9)
          replace HT:=tA HT o9
          replace HZ:=zA HZ o9
          subst ho9
          have LIE:=lN1 w48 x_m
          have BD1 : Hid (([x_k]).length ≤ 1000000):=by show _ ≤ _;simp
          have BD2 : Hid ([x_m].length ≤ 1000000):=by show _ ≤ _;simp
          go_wp2_with (at_builtin;refine wpList_joinNd rfl _ _ rfl (w.heap.size + 1) _ _ rfl HO.out (some ⟨(World.heap w48).size,0,none⟩) [x_m] 1 rfl LIE.out BD1.out BD2.out HZ.out ?_;intro A49 n50 c51 w52 hown hgr hpl;have HOWN:=Lib.hid hown;have HGR:=Lib.hid hgr;have HPL:=Lib.hid hpl;clear hown hgr hpl)
          replace HX:=Lib.hid (HX.out.grown HGR.out (row_nw HO.out))
          replace HZ:=Lib.hid (Nat.lt_of_lt_of_le HZ.out HGR.out.size)
          replace HT:=Lib.hid (HT.out.grown HGR.out (fun k e => .inr (row_ge HO.out k e)))
          replace HST:=Lib.hid (PT1.push (K:=(fun (t u : Nd) (ls : List Nd) s => (wantP E.L E.e ⟨#[41]⟩ s).bind fun _ s => (fun (_ _ : Nd) (ls : List Nd) s => endS E (.mk 16 ⟨#[]⟩ 0 ls) s) t u ls s)) HST.out HQ.out HO.out HGR.out HPL.out)
          replace HO:=HOWN
          clear LIE HGR HPL HOWN
          have HB_k53:=Lib.hid (Blk.new w52 9 #[.string ⟨#[41]⟩])
          have NB_k53:=nE HQ HZ
          have HG_k53 : Hid (w.heap.size < (World.heap w52).size):=HZ.out
          replace HX:=bA HX (.cells #[.string ⟨#[41]⟩] 9)
          replace HO:=oA HO (.cells #[.string ⟨#[41]⟩] 9)
          replace HST:=Lib.hid (HST.out.alloc (.cells #[.string ⟨#[41]⟩] 9))
          replace HT:=tA HT (.cells #[.string ⟨#[41]⟩] 9)
          replace HZ:=zA HZ (.cells #[.string ⟨#[41]⟩] 9)
          go_wp2_with fail
          (try rw [← (show (World.alloc w52 (.cells #[.string ⟨#[41]⟩] 9)).heap.size = _ from World.size_alloc _ _)])
          generalize (World.alloc w52 (.cells #[.string ⟨#[41]⟩] 9)) = w54 at *
          generalize (World.heap w52).size = b_k53 at *
          refine (pt_want (sr_ne HQ.out) (g:=b_k53) _ HB_k53.out.f1.1 NB_k53.out HB_k53.out.lt HST.out).mono ?_
          rintro e w55 ⟨ht9,⟨v9,rfl,rfl,hst9⟩ | ⟨c9,p9,hr9,hc9,rfl⟩⟩
          rotate_left
          ·exact ⟨rfl,HT.out.then ht9,.inr ⟨_,_,hr9,hc9,rfl⟩⟩
          clear HB_k53 NB_k53 HG_k53
          replace HX:=bT HX ht9 NE
          replace HO:=Lib.hid (HO.out.turned ht9 (row_ne HO.out HQ.out))
          replace HZ:=zT HZ ht9
          replace HT:=tT HT ht9
          replace HST:=Lib.hid hst9
          clear ht9 hst9
          replace HST : Hid (PT E rr _ (fun (_ _ : Nd) (ls : List Nd) s => endS E (.mk 16 ⟨#[]⟩ 0 ls) s) _ _ _ _ _):=HST.out
          go_wp2_with fail
          refine (pt_node (K:=(fun (t u : Nd) (ls : List Nd) s => (fun (_ _ : Nd) (_ : List Nd) n s => (wantP E.L E.e ⟨#[59]⟩ s).bind fun _ s => (fun (_ _ : Nd) (_ : List Nd) n s => Res.ok n s) nd0 nd0 [] n s) t u [] (.mk 16 ((fun _ _ => ⟨#[]⟩) t u) 0 ls) s)) (sr_ne HQ.out) 16 _ _ _ _ HST.out).mono ?_
          rintro e w56 ⟨rfl,ht9,hst9⟩
          replace HX:=bT HX ht9 NE
          replace HO:=Lib.hid (HO.out.turned ht9 (row_ne HO.out HQ.out))
          replace HZ:=zT HZ ht9
          replace HT:=tT HT ht9
          replace HST:=Lib.hid hst9
          clear ht9 hst9
          replace HST:=Lib.hid (PT.made (K:=(fun (_ _ : Nd) (_ : List Nd) n s => (wantP E.L E.e ⟨#[59]⟩ s).bind fun _ s => (fun (_ _ : Nd) (_ : List Nd) n s => Res.ok n s) nd0 nd0 [] n s)) (S':=SR w (.slice none 0 0)) (fun _ _ => ⟨#[]⟩) (fun _ _ _ _ => rfl) HO.out (fun b h => ⟨h.1,fun e => by cases e⟩) (fun k hk => ⟨row_gt HO.out k hk,fun e => by cases e⟩) HST.out)
          clear HO
          have HO:=Lib.hid (OwnN.nil w56 (w.heap.size + 1))
          replace HST : Hid (PT1 E rr _ (fun (_ _ : Nd) (_ : List Nd) n s => (wantP E.L E.e ⟨#[59]⟩ s).bind fun _ s => (fun (_ _ : Nd) (_ : List Nd) n s => Res.ok n s) nd0 nd0 [] n s) _ _ _ _ _ _):=HST.out
          go_wp2_with fail
          refine (pended_any (sr_ne HQ.out) (Nat.lt_trans HQ.out HZ.out) HST.out).mono ?_
          rintro e w57 ⟨ht9,⟨v9,rfl,rfl,hst9⟩ | ⟨c9,p9,hr9,hc9,rfl⟩⟩
          rotate_left
          ·exact ⟨rfl,HT.out.then ht9,.inr ⟨_,_,hr9,hc9,rfl⟩⟩
          replace HX:=bT HX ht9 NE
          replace HO:=Lib.hid (HO.out.turned ht9 (row_ne HO.out HQ.out))
          replace HZ:=zT HZ ht9
          replace HT:=tT HT ht9
          replace HST:=Lib.hid hst9
          clear ht9 hst9
          replace HST : Hid (PT1 E rr _ (fun (_ _ : Nd) (_ : List Nd) n s => Res.ok n s) _ _ _ _ _ _):=HST.out
          obtain ⟨u0,u1,u2,u3,g0,g1,g2,g3,gl⟩:=HX.out.f4
          go_wp2_with fail
          clear u0 u1 u2 u3 g0 g1 g2 g3 gl
          have HEND:=Lib.hid (pt_end (x:=(⟨16,⟨#[]⟩,0,A49,n50,c51⟩ : NV)) HQ.out HT.out HX.out (fun b h => h.1) HST.out rfl)
          refine open_post (fun W => Blk W w.heap.size 24 #[.int .i64 (⟨16,⟨#[]⟩,0,A49,n50,c51⟩ : NV).kind,.string (⟨16,⟨#[]⟩,0,A49,n50,c51⟩ : NV).text,.int .i64 (⟨16,⟨#[]⟩,0,A49,n50,c51⟩ : NV).num,.slice (⟨16,⟨#[]⟩,0,A49,n50,c51⟩ : NV).a (⟨16,⟨#[]⟩,0,A49,n50,c51⟩ : NV).len (⟨16,⟨#[]⟩,0,A49,n50,c51⟩ : NV).cap] ∧ PEnd E rr w (.returned (nvA (⟨16,⟨#[]⟩,0,A49,n50,c51⟩ : NV))) W) HEND.out ?_
          rintro W ⟨hb,hE⟩
          obtain ⟨v0,v1,v2,v3,-⟩:=hb.f4
          exact bodyPost_ret (v:=nvA (⟨16,⟨#[]⟩,0,A49,n50,c51⟩ : NV)) (by simp [results,Tryz.results94,go_sem,nvA,v0,v1,v2,v3]) rfl hE
        ·have HST:=Lib.hid (hy9 rfl)
         clear hy9 hn9
         replace HST : Hid (PT E rr _ (fun (t u : Nd) (ls : List Nd) s => (heldP E f s).bind fun k s => (fun (_ _ : Nd) (_ : List Nd) k s => endS E (.mk 15 ⟨#[]⟩ 0 [k]) s) t u ls k s) _ _ _ _ _):=HST.out
         go_wp2_with fail
         refine (pt_callR (sr_ne HQ.out) (fun s w h ho => pheld_any ihX h ho) (mo_held E f) HO0.out (fun b hb => ⟨Nat.lt_of_lt_of_le HZ.out hb,fun e => Nat.lt_irrefl _ (Nat.lt_of_lt_of_le (HO.out.lt _ e).2 hb)⟩) HST.out).mono ?_
         rintro e w58 ⟨ht9,⟨v9,rfl,x_k,rfl,hst9⟩ | ⟨c9,p9,hr9,hc9,rfl⟩⟩
         rotate_left
         ·exact ⟨rfl,HT.out.then ht9,.inr ⟨_,_,hr9,hc9,rfl⟩⟩
         replace HX:=bT HX ht9 NE
         replace HO:=Lib.hid (HO.out.turned ht9 (row_ne HO.out HQ.out))
         replace HZ:=zT HZ ht9
         replace HT:=tT HT ht9
         replace HST:=Lib.hid hst9
         clear ht9 hst9
         replace HST : Hid (PT1 E rr _ (fun t u (_ : List Nd) n s => (fun (t u : Nd) (ls : List Nd) s => endS E (.mk 15 ⟨#[]⟩ 0 ls) s) t u [n] s) _ _ _ _ _ _):=HST.out
         replace HST:=Lib.hid (PT1.first (K:=(fun (t u : Nd) (ls : List Nd) s => endS E (.mk 15 ⟨#[]⟩ 0 ls) s)) HST.out)
         replace HST:=Lib.hid (HST.out.weak (S':=SR w (.slice (some ⟨(World.heap w58).size,0,none⟩) 1 1)) (fun b hb h => ⟨h.1,fun e => Nat.lt_irrefl _ (Option.some.inj e ▸ hb)⟩))
         have HO8:=Lib.hid (OwnN.new w58 (w.heap.size + 1) [x_k] (by simp) (by simp) HZ.out #[.int .i64 x_k.kind,.string x_k.text,.int .i64 x_k.num,.slice x_k.a x_k.len x_k.cap] rfl)
         obtain ⟨o9,ho9⟩:=oN x_k
         replace HX:=bA HX o9
         replace HST:=Lib.hid (HST.out.alloc o9)
         replace HT:=tA HT o9
         replace HZ:=zA HZ o9
         subst ho9
         replace HO:=HO8
         clear HO8
         go_wp2_with fail
         (try rw [← (show (World.alloc w58 (.cells #[.int .i64 x_k.kind,.string x_k.text,.int .i64 x_k.num,.slice x_k.a x_k.len x_k.cap] 24)).heap.size = _ from World.size_alloc _ _)])
         generalize (World.alloc w58 (.cells #[.int .i64 x_k.kind,.string x_k.text,.int .i64 x_k.num,.slice x_k.a x_k.len x_k.cap] 24)) = w59 at *
         generalize (World.heap w58).size = g60 at *
         go_wp2_with fail
         refine (pt_node (K:=(fun (t u : Nd) (ls : List Nd) s => (fun (_ _ : Nd) (_ : List Nd) n s => (wantP E.L E.e ⟨#[59]⟩ s).bind fun _ s => (fun (_ _ : Nd) (_ : List Nd) n s => Res.ok n s) nd0 nd0 [] n s) t u [] (.mk 15 ((fun _ _ => ⟨#[]⟩) t u) 0 ls) s)) (sr_ne HQ.out) 15 _ _ _ _ HST.out).mono ?_
         rintro e w61 ⟨rfl,ht9,hst9⟩
         replace HX:=bT HX ht9 NE
         replace HO:=Lib.hid (HO.out.turned ht9 (row_ne HO.out HQ.out))
         replace HZ:=zT HZ ht9
         replace HT:=tT HT ht9
         replace HST:=Lib.hid hst9
         clear ht9 hst9
         replace HST:=Lib.hid (PT.made (K:=(fun (_ _ : Nd) (_ : List Nd) n s => (wantP E.L E.e ⟨#[59]⟩ s).bind fun _ s => (fun (_ _ : Nd) (_ : List Nd) n s => Res.ok n s) nd0 nd0 [] n s)) (S':=SR w (.slice none 0 0)) (fun _ _ => ⟨#[]⟩) (fun _ _ _ _ => rfl) HO.out (fun b h => ⟨h.1,fun e => by cases e⟩) (fun k hk => ⟨row_gt HO.out k hk,fun e => by cases e⟩) HST.out)
         clear HO
         have HO:=Lib.hid (OwnN.nil w61 (w.heap.size + 1))
         replace HST : Hid (PT1 E rr _ (fun (_ _ : Nd) (_ : List Nd) n s => (wantP E.L E.e ⟨#[59]⟩ s).bind fun _ s => (fun (_ _ : Nd) (_ : List Nd) n s => Res.ok n s) nd0 nd0 [] n s) _ _ _ _ _ _):=HST.out
         go_wp2_with fail
         refine (pended_any (sr_ne HQ.out) (Nat.lt_trans HQ.out HZ.out) HST.out).mono ?_
         rintro e w62 ⟨ht9,⟨v9,rfl,rfl,hst9⟩ | ⟨c9,p9,hr9,hc9,rfl⟩⟩
         rotate_left
         ·exact ⟨rfl,HT.out.then ht9,.inr ⟨_,_,hr9,hc9,rfl⟩⟩
         replace HX:=bT HX ht9 NE
         replace HO:=Lib.hid (HO.out.turned ht9 (row_ne HO.out HQ.out))
         replace HZ:=zT HZ ht9
         replace HT:=tT HT ht9
         replace HST:=Lib.hid hst9
         clear ht9 hst9
         replace HST : Hid (PT1 E rr _ (fun (_ _ : Nd) (_ : List Nd) n s => Res.ok n s) _ _ _ _ _ _):=HST.out
         obtain ⟨u0,u1,u2,u3,g0,g1,g2,g3,gl⟩:=HX.out.f4
         go_wp2_with fail
         clear u0 u1 u2 u3 g0 g1 g2 g3 gl
         have HEND:=Lib.hid (pt_end (x:=(⟨15,⟨#[]⟩,0,(some ⟨g60,0,none⟩),1,1⟩ : NV)) HQ.out HT.out HX.out (fun b h => h.1) HST.out rfl)
         refine open_post (fun W => Blk W w.heap.size 24 #[.int .i64 (⟨15,⟨#[]⟩,0,(some ⟨g60,0,none⟩),1,1⟩ : NV).kind,.string (⟨15,⟨#[]⟩,0,(some ⟨g60,0,none⟩),1,1⟩ : NV).text,.int .i64 (⟨15,⟨#[]⟩,0,(some ⟨g60,0,none⟩),1,1⟩ : NV).num,.slice (⟨15,⟨#[]⟩,0,(some ⟨g60,0,none⟩),1,1⟩ : NV).a (⟨15,⟨#[]⟩,0,(some ⟨g60,0,none⟩),1,1⟩ : NV).len (⟨15,⟨#[]⟩,0,(some ⟨g60,0,none⟩),1,1⟩ : NV).cap] ∧ PEnd E rr w (.returned (nvA (⟨15,⟨#[]⟩,0,(some ⟨g60,0,none⟩),1,1⟩ : NV))) W) HEND.out ?_
         rintro W ⟨hb,hE⟩
         obtain ⟨v0,v1,v2,v3,-⟩:=hb.f4
         exact bodyPost_ret (v:=nvA (⟨15,⟨#[]⟩,0,(some ⟨g60,0,none⟩),1,1⟩ : NV)) (by simp [results,Tryz.results94,go_sem,nvA,v0,v1,v2,v3]) rfl hE
       ·have HST:=Lib.hid (hy9 rfl)
        clear hy9 hn9
        replace HST : Hid (PT E rr _ (fun (t u : Nd) (ls : List Nd) s => (heldP E f s).bind fun k s => (fun (_ _ : Nd) (_ : List Nd) k s => endS E (.mk 14 ⟨#[]⟩ 0 [k]) s) t u ls k s) _ _ _ _ _):=HST.out
        go_wp2_with fail
        refine (pt_callR (sr_ne HQ.out) (fun s w h ho => pheld_any ihX h ho) (mo_held E f) HO0.out (fun b hb => ⟨Nat.lt_of_lt_of_le HZ.out hb,fun e => Nat.lt_irrefl _ (Nat.lt_of_lt_of_le (HO.out.lt _ e).2 hb)⟩) HST.out).mono ?_
        rintro e w63 ⟨ht9,⟨v9,rfl,x_k,rfl,hst9⟩ | ⟨c9,p9,hr9,hc9,rfl⟩⟩
        rotate_left
        ·exact ⟨rfl,HT.out.then ht9,.inr ⟨_,_,hr9,hc9,rfl⟩⟩
        replace HX:=bT HX ht9 NE
        replace HO:=Lib.hid (HO.out.turned ht9 (row_ne HO.out HQ.out))
        replace HZ:=zT HZ ht9
        replace HT:=tT HT ht9
        replace HST:=Lib.hid hst9
        clear ht9 hst9
        replace HST : Hid (PT1 E rr _ (fun t u (_ : List Nd) n s => (fun (t u : Nd) (ls : List Nd) s => endS E (.mk 14 ⟨#[]⟩ 0 ls) s) t u [n] s) _ _ _ _ _ _):=HST.out
        replace HST:=Lib.hid (PT1.first (K:=(fun (t u : Nd) (ls : List Nd) s => endS E (.mk 14 ⟨#[]⟩ 0 ls) s)) HST.out)
        replace HST:=Lib.hid (HST.out.weak (S':=SR w (.slice (some ⟨(World.heap w63).size,0,none⟩) 1 1)) (fun b hb h => ⟨h.1,fun e => Nat.lt_irrefl _ (Option.some.inj e ▸ hb)⟩))
        have HO8:=Lib.hid (OwnN.new w63 (w.heap.size + 1) [x_k] (by simp) (by simp) HZ.out #[.int .i64 x_k.kind,.string x_k.text,.int .i64 x_k.num,.slice x_k.a x_k.len x_k.cap] rfl)
        obtain ⟨o9,ho9⟩:=oN x_k
        replace HX:=bA HX o9
        replace HST:=Lib.hid (HST.out.alloc o9)
        replace HT:=tA HT o9
        replace HZ:=zA HZ o9
        subst ho9
        replace HO:=HO8
        clear HO8
        go_wp2_with fail
        (try rw [← (show (World.alloc w63 (.cells #[.int .i64 x_k.kind,.string x_k.text,.int .i64 x_k.num,.slice x_k.a x_k.len x_k.cap] 24)).heap.size = _ from World.size_alloc _ _)])
        generalize (World.alloc w63 (.cells #[.int .i64 x_k.kind,.string x_k.text,.int .i64 x_k.num,.slice x_k.a x_k.len x_k.cap] 24)) = w64 at *
        generalize (World.heap w63).size = g65 at *
        go_wp2_with fail
        refine (pt_node (K:=(fun (t u : Nd) (ls : List Nd) s => (fun (_ _ : Nd) (_ : List Nd) n s => (wantP E.L E.e ⟨#[59]⟩ s).bind fun _ s => (fun (_ _ : Nd) (_ : List Nd) n s => Res.ok n s) nd0 nd0 [] n s) t u [] (.mk 14 ((fun _ _ => ⟨#[]⟩) t u) 0 ls) s)) (sr_ne HQ.out) 14 _ _ _ _ HST.out).mono ?_
        rintro e w66 ⟨rfl,ht9,hst9⟩
        replace HX:=bT HX ht9 NE
        replace HO:=Lib.hid (HO.out.turned ht9 (row_ne HO.out HQ.out))
        replace HZ:=zT HZ ht9
        replace HT:=tT HT ht9
        replace HST:=Lib.hid hst9
        clear ht9 hst9
        replace HST:=Lib.hid (PT.made (K:=(fun (_ _ : Nd) (_ : List Nd) n s => (wantP E.L E.e ⟨#[59]⟩ s).bind fun _ s => (fun (_ _ : Nd) (_ : List Nd) n s => Res.ok n s) nd0 nd0 [] n s)) (S':=SR w (.slice none 0 0)) (fun _ _ => ⟨#[]⟩) (fun _ _ _ _ => rfl) HO.out (fun b h => ⟨h.1,fun e => by cases e⟩) (fun k hk => ⟨row_gt HO.out k hk,fun e => by cases e⟩) HST.out)
        clear HO
        have HO:=Lib.hid (OwnN.nil w66 (w.heap.size + 1))
        replace HST : Hid (PT1 E rr _ (fun (_ _ : Nd) (_ : List Nd) n s => (wantP E.L E.e ⟨#[59]⟩ s).bind fun _ s => (fun (_ _ : Nd) (_ : List Nd) n s => Res.ok n s) nd0 nd0 [] n s) _ _ _ _ _ _):=HST.out
        go_wp2_with fail
        refine (pended_any (sr_ne HQ.out) (Nat.lt_trans HQ.out HZ.out) HST.out).mono ?_
        rintro e w67 ⟨ht9,⟨v9,rfl,rfl,hst9⟩ | ⟨c9,p9,hr9,hc9,rfl⟩⟩
        rotate_left
        ·exact ⟨rfl,HT.out.then ht9,.inr ⟨_,_,hr9,hc9,rfl⟩⟩
        replace HX:=bT HX ht9 NE
        replace HO:=Lib.hid (HO.out.turned ht9 (row_ne HO.out HQ.out))
        replace HZ:=zT HZ ht9
        replace HT:=tT HT ht9
        replace HST:=Lib.hid hst9
        clear ht9 hst9
        replace HST : Hid (PT1 E rr _ (fun (_ _ : Nd) (_ : List Nd) n s => Res.ok n s) _ _ _ _ _ _):=HST.out
        obtain ⟨u0,u1,u2,u3,g0,g1,g2,g3,gl⟩:=HX.out.f4
        go_wp2_with fail
        clear u0 u1 u2 u3 g0 g1 g2 g3 gl
        have HEND:=Lib.hid (pt_end (x:=(⟨14,⟨#[]⟩,0,(some ⟨g65,0,none⟩),1,1⟩ : NV)) HQ.out HT.out HX.out (fun b h => h.1) HST.out rfl)
        refine open_post (fun W => Blk W w.heap.size 24 #[.int .i64 (⟨14,⟨#[]⟩,0,(some ⟨g65,0,none⟩),1,1⟩ : NV).kind,.string (⟨14,⟨#[]⟩,0,(some ⟨g65,0,none⟩),1,1⟩ : NV).text,.int .i64 (⟨14,⟨#[]⟩,0,(some ⟨g65,0,none⟩),1,1⟩ : NV).num,.slice (⟨14,⟨#[]⟩,0,(some ⟨g65,0,none⟩),1,1⟩ : NV).a (⟨14,⟨#[]⟩,0,(some ⟨g65,0,none⟩),1,1⟩ : NV).len (⟨14,⟨#[]⟩,0,(some ⟨g65,0,none⟩),1,1⟩ : NV).cap] ∧ PEnd E rr w (.returned (nvA (⟨14,⟨#[]⟩,0,(some ⟨g65,0,none⟩),1,1⟩ : NV))) W) HEND.out ?_
        rintro W ⟨hb,hE⟩
        obtain ⟨v0,v1,v2,v3,-⟩:=hb.f4
        exact bodyPost_ret (v:=nvA (⟨14,⟨#[]⟩,0,(some ⟨g65,0,none⟩),1,1⟩ : NV)) (by simp [results,Tryz.results94,go_sem,nvA,v0,v1,v2,v3]) rfl hE
      ·have HST:=Lib.hid (hy9 rfl)
       clear hy9 hn9
       replace HST : Hid (PT E rr _ (fun (t u : Nd) (ls : List Nd) s => (run E.L E.e f .block s).bind fun b s => (fun (_ _ : Nd) (_ : List Nd) b s => Res.ok (.mk 13 ⟨#[]⟩ 0 [b]) ⟨s.i,s.dep,s.many + 1⟩) t u ls b s) _ _ _ _ _):=HST.out
       go_wp2_with fail
       refine (pt_call (sr_ne HQ.out) ihB HO0.out (fun b hb => ⟨Nat.lt_of_lt_of_le HZ.out hb,fun e => Nat.lt_irrefl _ (Nat.lt_of_lt_of_le (HO.out.lt _ e).2 hb)⟩) HST.out).mono ?_
       rintro e w68 ⟨ht9,⟨v9,rfl,x_b,rfl,hst9⟩ | ⟨c9,p9,hr9,hc9,rfl⟩⟩
       rotate_left
       ·exact ⟨rfl,HT.out.then ht9,.inr ⟨_,_,hr9,hc9,rfl⟩⟩
       replace HX:=bT HX ht9 NE
       replace HO:=Lib.hid (HO.out.turned ht9 (row_ne HO.out HQ.out))
       replace HZ:=zT HZ ht9
       replace HT:=tT HT ht9
       replace HST:=Lib.hid hst9
       clear ht9 hst9
       replace HST : Hid (PT1 E rr _ (fun t u (_ : List Nd) n s => (fun (t u : Nd) (ls : List Nd) s => Res.ok (.mk 13 ⟨#[]⟩ 0 ls) ⟨s.i,s.dep,s.many + 1⟩) t u [n] s) _ _ _ _ _ _):=HST.out
       replace HST:=Lib.hid (PT1.first (K:=(fun (t u : Nd) (ls : List Nd) s => Res.ok (.mk 13 ⟨#[]⟩ 0 ls) ⟨s.i,s.dep,s.many + 1⟩)) HST.out)
       replace HST:=Lib.hid (HST.out.weak (S':=SR w (.slice (some ⟨(World.heap w68).size,0,none⟩) 1 1)) (fun b hb h => ⟨h.1,fun e => Nat.lt_irrefl _ (Option.some.inj e ▸ hb)⟩))
       have HO8:=Lib.hid (OwnN.new w68 (w.heap.size + 1) [x_b] (by simp) (by simp) HZ.out #[.int .i64 x_b.kind,.string x_b.text,.int .i64 x_b.num,.slice x_b.a x_b.len x_b.cap] rfl)
       obtain ⟨o9,ho9⟩:=oN x_b
       replace HX:=bA HX o9
       replace HST:=Lib.hid (HST.out.alloc o9)
       replace HT:=tA HT o9
       replace HZ:=zA HZ o9
       subst ho9
       replace HO:=HO8
       clear HO8
       go_wp2_with fail
       (try rw [← (show (World.alloc w68 (.cells #[.int .i64 x_b.kind,.string x_b.text,.int .i64 x_b.num,.slice x_b.a x_b.len x_b.cap] 24)).heap.size = _ from World.size_alloc _ _)])
       generalize (World.alloc w68 (.cells #[.int .i64 x_b.kind,.string x_b.text,.int .i64 x_b.num,.slice x_b.a x_b.len x_b.cap] 24)) = w69 at *
       generalize (World.heap w68).size = g70 at *
       go_wp2_with fail
       refine (pt_node (K:=(fun (t u : Nd) (ls : List Nd) s => (fun (_ _ : Nd) (_ : List Nd) n s => Res.ok n s) t u [] (.mk 13 ((fun _ _ => ⟨#[]⟩) t u) 0 ls) s)) (sr_ne HQ.out) 13 _ _ _ _ HST.out).mono ?_
       rintro e w71 ⟨rfl,ht9,hst9⟩
       replace HX:=bT HX ht9 NE
       replace HO:=Lib.hid (HO.out.turned ht9 (row_ne HO.out HQ.out))
       replace HZ:=zT HZ ht9
       replace HT:=tT HT ht9
       replace HST:=Lib.hid hst9
       clear ht9 hst9
       replace HST:=Lib.hid (PT.made (K:=(fun (_ _ : Nd) (_ : List Nd) n s => Res.ok n s)) (S':=SR w (.slice none 0 0)) (fun _ _ => ⟨#[]⟩) (fun _ _ _ _ => rfl) HO.out (fun b h => ⟨h.1,fun e => by cases e⟩) (fun k hk => ⟨row_gt HO.out k hk,fun e => by cases e⟩) HST.out)
       clear HO
       have HO:=Lib.hid (OwnN.nil w71 (w.heap.size + 1))
       obtain ⟨u0,u1,u2,u3,g0,g1,g2,g3,gl⟩:=HX.out.f4
       go_wp2_with fail
       clear u0 u1 u2 u3 g0 g1 g2 g3 gl
       have HEND:=Lib.hid (pt_end (x:=(⟨13,⟨#[]⟩,0,(some ⟨g70,0,none⟩),1,1⟩ : NV)) HQ.out HT.out HX.out (fun b h => h.1) HST.out rfl)
       refine open_post (fun W => Blk W w.heap.size 24 #[.int .i64 (⟨13,⟨#[]⟩,0,(some ⟨g70,0,none⟩),1,1⟩ : NV).kind,.string (⟨13,⟨#[]⟩,0,(some ⟨g70,0,none⟩),1,1⟩ : NV).text,.int .i64 (⟨13,⟨#[]⟩,0,(some ⟨g70,0,none⟩),1,1⟩ : NV).num,.slice (⟨13,⟨#[]⟩,0,(some ⟨g70,0,none⟩),1,1⟩ : NV).a (⟨13,⟨#[]⟩,0,(some ⟨g70,0,none⟩),1,1⟩ : NV).len (⟨13,⟨#[]⟩,0,(some ⟨g70,0,none⟩),1,1⟩ : NV).cap] ∧ PEnd E rr w (.returned (nvA (⟨13,⟨#[]⟩,0,(some ⟨g70,0,none⟩),1,1⟩ : NV))) W) HEND.out ?_
       rintro W ⟨hb,hE⟩
       obtain ⟨v0,v1,v2,v3,-⟩:=hb.f4
       exact bodyPost_ret (v:=nvA (⟨13,⟨#[]⟩,0,(some ⟨g70,0,none⟩),1,1⟩ : NV)) (by simp [results,Tryz.results94,go_sem,nvA,v0,v1,v2,v3]) rfl hE
     ·have HST:=Lib.hid (hy9 rfl)
      clear hy9 hn9
      replace HST : Hid (PT E rr _ (fun (t u : Nd) (ls : List Nd) s => (heldP E f s).bind fun k s => (fun (_ _ : Nd) (_ : List Nd) k s => endS E (.mk 12 ⟨#[]⟩ 0 [k]) s) t u ls k s) _ _ _ _ _):=HST.out
      go_wp2_with fail
      refine (pt_callR (sr_ne HQ.out) (fun s w h ho => pheld_any ihX h ho) (mo_held E f) HO0.out (fun b hb => ⟨Nat.lt_of_lt_of_le HZ.out hb,fun e => Nat.lt_irrefl _ (Nat.lt_of_lt_of_le (HO.out.lt _ e).2 hb)⟩) HST.out).mono ?_
      rintro e w72 ⟨ht9,⟨v9,rfl,x_k,rfl,hst9⟩ | ⟨c9,p9,hr9,hc9,rfl⟩⟩
      rotate_left
      ·exact ⟨rfl,HT.out.then ht9,.inr ⟨_,_,hr9,hc9,rfl⟩⟩
      replace HX:=bT HX ht9 NE
      replace HO:=Lib.hid (HO.out.turned ht9 (row_ne HO.out HQ.out))
      replace HZ:=zT HZ ht9
      replace HT:=tT HT ht9
      replace HST:=Lib.hid hst9
      clear ht9 hst9
      replace HST : Hid (PT1 E rr _ (fun t u (_ : List Nd) n s => (fun (t u : Nd) (ls : List Nd) s => endS E (.mk 12 ⟨#[]⟩ 0 ls) s) t u [n] s) _ _ _ _ _ _):=HST.out
      replace HST:=Lib.hid (PT1.first (K:=(fun (t u : Nd) (ls : List Nd) s => endS E (.mk 12 ⟨#[]⟩ 0 ls) s)) HST.out)
      replace HST:=Lib.hid (HST.out.weak (S':=SR w (.slice (some ⟨(World.heap w72).size,0,none⟩) 1 1)) (fun b hb h => ⟨h.1,fun e => Nat.lt_irrefl _ (Option.some.inj e ▸ hb)⟩))
      have HO8:=Lib.hid (OwnN.new w72 (w.heap.size + 1) [x_k] (by simp) (by simp) HZ.out #[.int .i64 x_k.kind,.string x_k.text,.int .i64 x_k.num,.slice x_k.a x_k.len x_k.cap] rfl)
      obtain ⟨o9,ho9⟩:=oN x_k
      replace HX:=bA HX o9
      replace HST:=Lib.hid (HST.out.alloc o9)
      replace HT:=tA HT o9
      replace HZ:=zA HZ o9
      subst ho9
      replace HO:=HO8
      clear HO8
      go_wp2_with fail
      (try rw [← (show (World.alloc w72 (.cells #[.int .i64 x_k.kind,.string x_k.text,.int .i64 x_k.num,.slice x_k.a x_k.len x_k.cap] 24)).heap.size = _ from World.size_alloc _ _)])
      generalize (World.alloc w72 (.cells #[.int .i64 x_k.kind,.string x_k.text,.int .i64 x_k.num,.slice x_k.a x_k.len x_k.cap] 24)) = w73 at *
      generalize (World.heap w72).size = g74 at *
      go_wp2_with fail
      refine (pt_node (K:=(fun (t u : Nd) (ls : List Nd) s => (fun (_ _ : Nd) (_ : List Nd) n s => (wantP E.L E.e ⟨#[59]⟩ s).bind fun _ s => (fun (_ _ : Nd) (_ : List Nd) n s => Res.ok n s) nd0 nd0 [] n s) t u [] (.mk 12 ((fun _ _ => ⟨#[]⟩) t u) 0 ls) s)) (sr_ne HQ.out) 12 _ _ _ _ HST.out).mono ?_
      rintro e w75 ⟨rfl,ht9,hst9⟩
      replace HX:=bT HX ht9 NE
      replace HO:=Lib.hid (HO.out.turned ht9 (row_ne HO.out HQ.out))
      replace HZ:=zT HZ ht9
      replace HT:=tT HT ht9
      replace HST:=Lib.hid hst9
      clear ht9 hst9
      replace HST:=Lib.hid (PT.made (K:=(fun (_ _ : Nd) (_ : List Nd) n s => (wantP E.L E.e ⟨#[59]⟩ s).bind fun _ s => (fun (_ _ : Nd) (_ : List Nd) n s => Res.ok n s) nd0 nd0 [] n s)) (S':=SR w (.slice none 0 0)) (fun _ _ => ⟨#[]⟩) (fun _ _ _ _ => rfl) HO.out (fun b h => ⟨h.1,fun e => by cases e⟩) (fun k hk => ⟨row_gt HO.out k hk,fun e => by cases e⟩) HST.out)
      clear HO
      have HO:=Lib.hid (OwnN.nil w75 (w.heap.size + 1))
      replace HST : Hid (PT1 E rr _ (fun (_ _ : Nd) (_ : List Nd) n s => (wantP E.L E.e ⟨#[59]⟩ s).bind fun _ s => (fun (_ _ : Nd) (_ : List Nd) n s => Res.ok n s) nd0 nd0 [] n s) _ _ _ _ _ _):=HST.out
      go_wp2_with fail
      refine (pended_any (sr_ne HQ.out) (Nat.lt_trans HQ.out HZ.out) HST.out).mono ?_
      rintro e w76 ⟨ht9,⟨v9,rfl,rfl,hst9⟩ | ⟨c9,p9,hr9,hc9,rfl⟩⟩
      rotate_left
      ·exact ⟨rfl,HT.out.then ht9,.inr ⟨_,_,hr9,hc9,rfl⟩⟩
      replace HX:=bT HX ht9 NE
      replace HO:=Lib.hid (HO.out.turned ht9 (row_ne HO.out HQ.out))
      replace HZ:=zT HZ ht9
      replace HT:=tT HT ht9
      replace HST:=Lib.hid hst9
      clear ht9 hst9
      replace HST : Hid (PT1 E rr _ (fun (_ _ : Nd) (_ : List Nd) n s => Res.ok n s) _ _ _ _ _ _):=HST.out
      obtain ⟨u0,u1,u2,u3,g0,g1,g2,g3,gl⟩:=HX.out.f4
      go_wp2_with fail
      clear u0 u1 u2 u3 g0 g1 g2 g3 gl
      have HEND:=Lib.hid (pt_end (x:=(⟨12,⟨#[]⟩,0,(some ⟨g74,0,none⟩),1,1⟩ : NV)) HQ.out HT.out HX.out (fun b h => h.1) HST.out rfl)
      refine open_post (fun W => Blk W w.heap.size 24 #[.int .i64 (⟨12,⟨#[]⟩,0,(some ⟨g74,0,none⟩),1,1⟩ : NV).kind,.string (⟨12,⟨#[]⟩,0,(some ⟨g74,0,none⟩),1,1⟩ : NV).text,.int .i64 (⟨12,⟨#[]⟩,0,(some ⟨g74,0,none⟩),1,1⟩ : NV).num,.slice (⟨12,⟨#[]⟩,0,(some ⟨g74,0,none⟩),1,1⟩ : NV).a (⟨12,⟨#[]⟩,0,(some ⟨g74,0,none⟩),1,1⟩ : NV).len (⟨12,⟨#[]⟩,0,(some ⟨g74,0,none⟩),1,1⟩ : NV).cap] ∧ PEnd E rr w (.returned (nvA (⟨12,⟨#[]⟩,0,(some ⟨g74,0,none⟩),1,1⟩ : NV))) W) HEND.out ?_
      rintro W ⟨hb,hE⟩
      obtain ⟨v0,v1,v2,v3,-⟩:=hb.f4
      exact bodyPost_ret (v:=nvA (⟨12,⟨#[]⟩,0,(some ⟨g74,0,none⟩),1,1⟩ : NV)) (by simp [results,Tryz.results94,go_sem,nvA,v0,v1,v2,v3]) rfl hE
    ·have HST:=Lib.hid (hy9 rfl)
     clear hy9 hn9
     replace HST : Hid (PT E rr _ (fun (t u : Nd) (ls : List Nd) s => (run E.L E.e f .expr s).bind fun k s => (fun (_ _ : Nd) (_ : List Nd) k s => endS E (.mk 11 ⟨#[]⟩ 0 [k]) s) t u ls k s) _ _ _ _ _):=HST.out
     go_wp2_with fail
     refine (pt_call (sr_ne HQ.out) ihX HO0.out (fun b hb => ⟨Nat.lt_of_lt_of_le HZ.out hb,fun e => Nat.lt_irrefl _ (Nat.lt_of_lt_of_le (HO.out.lt _ e).2 hb)⟩) HST.out).mono ?_
     rintro e w77 ⟨ht9,⟨v9,rfl,x_k,rfl,hst9⟩ | ⟨c9,p9,hr9,hc9,rfl⟩⟩
     rotate_left
     ·exact ⟨rfl,HT.out.then ht9,.inr ⟨_,_,hr9,hc9,rfl⟩⟩
     replace HX:=bT HX ht9 NE
     replace HO:=Lib.hid (HO.out.turned ht9 (row_ne HO.out HQ.out))
     replace HZ:=zT HZ ht9
     replace HT:=tT HT ht9
     replace HST:=Lib.hid hst9
     clear ht9 hst9
     replace HST : Hid (PT1 E rr _ (fun t u (_ : List Nd) n s => (fun (t u : Nd) (ls : List Nd) s => endS E (.mk 11 ⟨#[]⟩ 0 ls) s) t u [n] s) _ _ _ _ _ _):=HST.out
     replace HST:=Lib.hid (PT1.first (K:=(fun (t u : Nd) (ls : List Nd) s => endS E (.mk 11 ⟨#[]⟩ 0 ls) s)) HST.out)
     replace HST:=Lib.hid (HST.out.weak (S':=SR w (.slice (some ⟨(World.heap w77).size,0,none⟩) 1 1)) (fun b hb h => ⟨h.1,fun e => Nat.lt_irrefl _ (Option.some.inj e ▸ hb)⟩))
     have HO8:=Lib.hid (OwnN.new w77 (w.heap.size + 1) [x_k] (by simp) (by simp) HZ.out #[.int .i64 x_k.kind,.string x_k.text,.int .i64 x_k.num,.slice x_k.a x_k.len x_k.cap] rfl)
     obtain ⟨o9,ho9⟩:=oN x_k
     replace HX:=bA HX o9
     replace HST:=Lib.hid (HST.out.alloc o9)
     replace HT:=tA HT o9
     replace HZ:=zA HZ o9
     subst ho9
     replace HO:=HO8
     clear HO8
     go_wp2_with fail
     (try rw [← (show (World.alloc w77 (.cells #[.int .i64 x_k.kind,.string x_k.text,.int .i64 x_k.num,.slice x_k.a x_k.len x_k.cap] 24)).heap.size = _ from World.size_alloc _ _)])
     generalize (World.alloc w77 (.cells #[.int .i64 x_k.kind,.string x_k.text,.int .i64 x_k.num,.slice x_k.a x_k.len x_k.cap] 24)) = w78 at *
     generalize (World.heap w77).size = g79 at *
     go_wp2_with fail
     refine (pt_node (K:=(fun (t u : Nd) (ls : List Nd) s => (fun (_ _ : Nd) (_ : List Nd) n s => (wantP E.L E.e ⟨#[59]⟩ s).bind fun _ s => (fun (_ _ : Nd) (_ : List Nd) n s => Res.ok n s) nd0 nd0 [] n s) t u [] (.mk 11 ((fun _ _ => ⟨#[]⟩) t u) 0 ls) s)) (sr_ne HQ.out) 11 _ _ _ _ HST.out).mono ?_
     rintro e w80 ⟨rfl,ht9,hst9⟩
     replace HX:=bT HX ht9 NE
     replace HO:=Lib.hid (HO.out.turned ht9 (row_ne HO.out HQ.out))
     replace HZ:=zT HZ ht9
     replace HT:=tT HT ht9
     replace HST:=Lib.hid hst9
     clear ht9 hst9
     replace HST:=Lib.hid (PT.made (K:=(fun (_ _ : Nd) (_ : List Nd) n s => (wantP E.L E.e ⟨#[59]⟩ s).bind fun _ s => (fun (_ _ : Nd) (_ : List Nd) n s => Res.ok n s) nd0 nd0 [] n s)) (S':=SR w (.slice none 0 0)) (fun _ _ => ⟨#[]⟩) (fun _ _ _ _ => rfl) HO.out (fun b h => ⟨h.1,fun e => by cases e⟩) (fun k hk => ⟨row_gt HO.out k hk,fun e => by cases e⟩) HST.out)
     clear HO
     have HO:=Lib.hid (OwnN.nil w80 (w.heap.size + 1))
     replace HST : Hid (PT1 E rr _ (fun (_ _ : Nd) (_ : List Nd) n s => (wantP E.L E.e ⟨#[59]⟩ s).bind fun _ s => (fun (_ _ : Nd) (_ : List Nd) n s => Res.ok n s) nd0 nd0 [] n s) _ _ _ _ _ _):=HST.out
     go_wp2_with fail
     refine (pended_any (sr_ne HQ.out) (Nat.lt_trans HQ.out HZ.out) HST.out).mono ?_
     rintro e w81 ⟨ht9,⟨v9,rfl,rfl,hst9⟩ | ⟨c9,p9,hr9,hc9,rfl⟩⟩
     rotate_left
     ·exact ⟨rfl,HT.out.then ht9,.inr ⟨_,_,hr9,hc9,rfl⟩⟩
     replace HX:=bT HX ht9 NE
     replace HO:=Lib.hid (HO.out.turned ht9 (row_ne HO.out HQ.out))
     replace HZ:=zT HZ ht9
     replace HT:=tT HT ht9
     replace HST:=Lib.hid hst9
     clear ht9 hst9
     replace HST : Hid (PT1 E rr _ (fun (_ _ : Nd) (_ : List Nd) n s => Res.ok n s) _ _ _ _ _ _):=HST.out
     obtain ⟨u0,u1,u2,u3,g0,g1,g2,g3,gl⟩:=HX.out.f4
     go_wp2_with fail
     clear u0 u1 u2 u3 g0 g1 g2 g3 gl
     have HEND:=Lib.hid (pt_end (x:=(⟨11,⟨#[]⟩,0,(some ⟨g79,0,none⟩),1,1⟩ : NV)) HQ.out HT.out HX.out (fun b h => h.1) HST.out rfl)
     refine open_post (fun W => Blk W w.heap.size 24 #[.int .i64 (⟨11,⟨#[]⟩,0,(some ⟨g79,0,none⟩),1,1⟩ : NV).kind,.string (⟨11,⟨#[]⟩,0,(some ⟨g79,0,none⟩),1,1⟩ : NV).text,.int .i64 (⟨11,⟨#[]⟩,0,(some ⟨g79,0,none⟩),1,1⟩ : NV).num,.slice (⟨11,⟨#[]⟩,0,(some ⟨g79,0,none⟩),1,1⟩ : NV).a (⟨11,⟨#[]⟩,0,(some ⟨g79,0,none⟩),1,1⟩ : NV).len (⟨11,⟨#[]⟩,0,(some ⟨g79,0,none⟩),1,1⟩ : NV).cap] ∧ PEnd E rr w (.returned (nvA (⟨11,⟨#[]⟩,0,(some ⟨g79,0,none⟩),1,1⟩ : NV))) W) HEND.out ?_
     rintro W ⟨hb,hE⟩
     obtain ⟨v0,v1,v2,v3,-⟩:=hb.f4
     exact bodyPost_ret (v:=nvA (⟨11,⟨#[]⟩,0,(some ⟨g79,0,none⟩),1,1⟩ : NV)) (by simp [results,Tryz.results94,go_sem,nvA,v0,v1,v2,v3]) rfl hE
   ·have HST:=Lib.hid (hy9 rfl)
    clear hy9 hn9
    replace HST : Hid (PT E rr _ (fun (t u : Nd) (ls : List Nd) s => (heldP E f s).bind fun k s => (fun (t u : Nd) (_ : List Nd) k s => (fun (t u : Nd) (ls : List Nd) s => (run E.L E.e f .block s).bind fun b s => (fun t u ls b s => (fun (_ _ : Nd) (ls : List Nd) s => Res.ok (.mk 10 ⟨#[]⟩ 0 ls) ⟨s.i,s.dep,s.many + 1⟩) t u (ls ++ [b]) s) t u ls b s) t u [k] s) t u ls k s) _ _ _ _ _):=HST.out
    go_wp2_with fail
    refine (pt_callR (sr_ne HQ.out) (fun s w h ho => pheld_any ihX h ho) (mo_held E f) HO0.out (fun b hb => ⟨Nat.lt_of_lt_of_le HZ.out hb,fun e => Nat.lt_irrefl _ (Nat.lt_of_lt_of_le (HO.out.lt _ e).2 hb)⟩) HST.out).mono ?_
    rintro e w82 ⟨ht9,⟨v9,rfl,x_k,rfl,hst9⟩ | ⟨c9,p9,hr9,hc9,rfl⟩⟩
    rotate_left
    ·exact ⟨rfl,HT.out.then ht9,.inr ⟨_,_,hr9,hc9,rfl⟩⟩
    replace HX:=bT HX ht9 NE
    replace HO:=Lib.hid (HO.out.turned ht9 (row_ne HO.out HQ.out))
    replace HZ:=zT HZ ht9
    replace HT:=tT HT ht9
    replace HST:=Lib.hid hst9
    clear ht9 hst9
    replace HST : Hid (PT1 E rr _ (fun t u (_ : List Nd) n s => (fun (t u : Nd) (ls : List Nd) s => (run E.L E.e f .block s).bind fun b s => (fun t u ls b s => (fun (_ _ : Nd) (ls : List Nd) s => Res.ok (.mk 10 ⟨#[]⟩ 0 ls) ⟨s.i,s.dep,s.many + 1⟩) t u (ls ++ [b]) s) t u ls b s) t u [n] s) _ _ _ _ _ _):=HST.out
    replace HST:=Lib.hid (PT1.first (K:=(fun (t u : Nd) (ls : List Nd) s => (run E.L E.e f .block s).bind fun b s => (fun t u ls b s => (fun (_ _ : Nd) (ls : List Nd) s => Res.ok (.mk 10 ⟨#[]⟩ 0 ls) ⟨s.i,s.dep,s.many + 1⟩) t u (ls ++ [b]) s) t u ls b s)) HST.out)
    go_wp2_with fail
    refine (pt_call (sr_ne HQ.out) ihB HO0.out (fun b hb => ⟨Nat.lt_of_lt_of_le HZ.out hb,fun e => Nat.lt_irrefl _ (Nat.lt_of_lt_of_le (HO.out.lt _ e).2 hb)⟩) HST.out).mono ?_
    rintro e w83 ⟨ht9,⟨v9,rfl,x_b,rfl,hst9⟩ | ⟨c9,p9,hr9,hc9,rfl⟩⟩
    rotate_left
    ·exact ⟨rfl,HT.out.then ht9,.inr ⟨_,_,hr9,hc9,rfl⟩⟩
    replace HX:=bT HX ht9 NE
    replace HO:=Lib.hid (HO.out.turned ht9 (row_ne HO.out HQ.out))
    replace HZ:=zT HZ ht9
    replace HT:=tT HT ht9
    replace HST:=Lib.hid hst9
    clear ht9 hst9
    replace HST : Hid (PT1 E rr _ (fun t u ls n s => (fun (_ _ : Nd) (ls : List Nd) s => Res.ok (.mk 10 ⟨#[]⟩ 0 ls) ⟨s.i,s.dep,s.many + 1⟩) t u (ls ++ [n]) s) _ _ _ _ _ _):=HST.out
    replace HST:=Lib.hid (PT1.two (K:=(fun (_ _ : Nd) (ls : List Nd) s => Res.ok (.mk 10 ⟨#[]⟩ 0 ls) ⟨s.i,s.dep,s.many + 1⟩)) HST.out)
    replace HST:=Lib.hid (HST.out.weak (S':=SR w (.slice (some ⟨(World.heap w83).size,0,none⟩) 2 2)) (fun b hb h => ⟨h.1,fun e => Nat.lt_irrefl _ (Option.some.inj e ▸ hb)⟩))
    have HO8:=Lib.hid (OwnN.new w83 (w.heap.size + 1) [x_k,x_b] (by simp) (by simp) HZ.out #[.int .i64 x_k.kind,.string x_k.text,.int .i64 x_k.num,.slice x_k.a x_k.len x_k.cap,.int .i64 x_b.kind,.string x_b.text,.int .i64 x_b.num,.slice x_b.a x_b.len x_b.cap] rfl)
    obtain ⟨o9,ho9⟩:=oNN x_k x_b
    replace HX:=bA HX o9
    replace HST:=Lib.hid (HST.out.alloc o9)
    replace HT:=tA HT o9
    replace HZ:=zA HZ o9
    subst ho9
    replace HO:=HO8
    clear HO8
    go_wp2_with fail
    (try rw [← (show (World.alloc w83 (.cells #[.int .i64 x_k.kind,.string x_k.text,.int .i64 x_k.num,.slice x_k.a x_k.len x_k.cap,.int .i64 x_b.kind,.string x_b.text,.int .i64 x_b.num,.slice x_b.a x_b.len x_b.cap] 24)).heap.size = _ from World.size_alloc _ _)])
    generalize (World.alloc w83 (.cells #[.int .i64 x_k.kind,.string x_k.text,.int .i64 x_k.num,.slice x_k.a x_k.len x_k.cap,.int .i64 x_b.kind,.string x_b.text,.int .i64 x_b.num,.slice x_b.a x_b.len x_b.cap] 24)) = w84 at *
    generalize (World.heap w83).size = g85 at *
    go_wp2_with fail
    refine (pt_node (K:=(fun (t u : Nd) (ls : List Nd) s => (fun (_ _ : Nd) (_ : List Nd) n s => Res.ok n s) t u [] (.mk 10 ((fun _ _ => ⟨#[]⟩) t u) 0 ls) s)) (sr_ne HQ.out) 10 _ _ _ _ HST.out).mono ?_
    rintro e w86 ⟨rfl,ht9,hst9⟩
    replace HX:=bT HX ht9 NE
    replace HO:=Lib.hid (HO.out.turned ht9 (row_ne HO.out HQ.out))
    replace HZ:=zT HZ ht9
    replace HT:=tT HT ht9
    replace HST:=Lib.hid hst9
    clear ht9 hst9
    replace HST:=Lib.hid (PT.made (K:=(fun (_ _ : Nd) (_ : List Nd) n s => Res.ok n s)) (S':=SR w (.slice none 0 0)) (fun _ _ => ⟨#[]⟩) (fun _ _ _ _ => rfl) HO.out (fun b h => ⟨h.1,fun e => by cases e⟩) (fun k hk => ⟨row_gt HO.out k hk,fun e => by cases e⟩) HST.out)
    clear HO
    have HO:=Lib.hid (OwnN.nil w86 (w.heap.size + 1))
    obtain ⟨u0,u1,u2,u3,g0,g1,g2,g3,gl⟩:=HX.out.f4
    go_wp2_with fail
    clear u0 u1 u2 u3 g0 g1 g2 g3 gl
    have HEND:=Lib.hid (pt_end (x:=(⟨10,⟨#[]⟩,0,(some ⟨g85,0,none⟩),2,2⟩ : NV)) HQ.out HT.out HX.out (fun b h => h.1) HST.out rfl)
    refine open_post (fun W => Blk W w.heap.size 24 #[.int .i64 (⟨10,⟨#[]⟩,0,(some ⟨g85,0,none⟩),2,2⟩ : NV).kind,.string (⟨10,⟨#[]⟩,0,(some ⟨g85,0,none⟩),2,2⟩ : NV).text,.int .i64 (⟨10,⟨#[]⟩,0,(some ⟨g85,0,none⟩),2,2⟩ : NV).num,.slice (⟨10,⟨#[]⟩,0,(some ⟨g85,0,none⟩),2,2⟩ : NV).a (⟨10,⟨#[]⟩,0,(some ⟨g85,0,none⟩),2,2⟩ : NV).len (⟨10,⟨#[]⟩,0,(some ⟨g85,0,none⟩),2,2⟩ : NV).cap] ∧ PEnd E rr w (.returned (nvA (⟨10,⟨#[]⟩,0,(some ⟨g85,0,none⟩),2,2⟩ : NV))) W) HEND.out ?_
    rintro W ⟨hb,hE⟩
    obtain ⟨v0,v1,v2,v3,-⟩:=hb.f4
    exact bodyPost_ret (v:=nvA (⟨10,⟨#[]⟩,0,(some ⟨g85,0,none⟩),2,2⟩ : NV)) (by simp [results,Tryz.results94,go_sem,nvA,v0,v1,v2,v3]) rfl hE
  ·have HST:=Lib.hid (hy9 rfl)
   clear hy9 hn9
   replace HST : Hid (PT E rr _ (fun (t u : Nd) (ls : List Nd) s => (heldP E f s).bind fun k s => (fun (t u : Nd) (_ : List Nd) k s => (fun (t u : Nd) (ls : List Nd) s => (run E.L E.e f .block s).bind fun b s => (fun t u ls b s => (fun (t u : Nd) (ls : List Nd) s => if seesP E.L ⟨#[101,108,115,101]⟩ s = true then (fun (t u : Nd) (ls : List Nd) s => (run E.L E.e f .block s).bind fun c s => (fun t u ls c s => (fun (_ _ : Nd) (ls : List Nd) s => Res.ok (.mk 9 ⟨#[]⟩ 0 ls) ⟨s.i,s.dep,s.many + 1⟩) t u (ls ++ [c]) s) t u ls c s) t u ls (stepP s) else (fun (_ _ : Nd) (ls : List Nd) s => Res.ok (.mk 9 ⟨#[]⟩ 0 ls) ⟨s.i,s.dep,s.many + 1⟩) t u ls s) t u (ls ++ [b]) s) t u ls b s) t u [k] s) t u ls k s) _ _ _ _ _):=HST.out
   go_wp2_with fail
   refine (pt_callR (sr_ne HQ.out) (fun s w h ho => pheld_any ihX h ho) (mo_held E f) HO0.out (fun b hb => ⟨Nat.lt_of_lt_of_le HZ.out hb,fun e => Nat.lt_irrefl _ (Nat.lt_of_lt_of_le (HO.out.lt _ e).2 hb)⟩) HST.out).mono ?_
   rintro e w87 ⟨ht9,⟨v9,rfl,x_k,rfl,hst9⟩ | ⟨c9,p9,hr9,hc9,rfl⟩⟩
   rotate_left
   ·exact ⟨rfl,HT.out.then ht9,.inr ⟨_,_,hr9,hc9,rfl⟩⟩
   replace HX:=bT HX ht9 NE
   replace HO:=Lib.hid (HO.out.turned ht9 (row_ne HO.out HQ.out))
   replace HZ:=zT HZ ht9
   replace HT:=tT HT ht9
   replace HST:=Lib.hid hst9
   clear ht9 hst9
   replace HST : Hid (PT1 E rr _ (fun t u (_ : List Nd) n s => (fun (t u : Nd) (ls : List Nd) s => (run E.L E.e f .block s).bind fun b s => (fun t u ls b s => (fun (t u : Nd) (ls : List Nd) s => if seesP E.L ⟨#[101,108,115,101]⟩ s = true then (fun (t u : Nd) (ls : List Nd) s => (run E.L E.e f .block s).bind fun c s => (fun t u ls c s => (fun (_ _ : Nd) (ls : List Nd) s => Res.ok (.mk 9 ⟨#[]⟩ 0 ls) ⟨s.i,s.dep,s.many + 1⟩) t u (ls ++ [c]) s) t u ls c s) t u ls (stepP s) else (fun (_ _ : Nd) (ls : List Nd) s => Res.ok (.mk 9 ⟨#[]⟩ 0 ls) ⟨s.i,s.dep,s.many + 1⟩) t u ls s) t u (ls ++ [b]) s) t u ls b s) t u [n] s) _ _ _ _ _ _):=HST.out
   replace HST:=Lib.hid (PT1.first (K:=(fun (t u : Nd) (ls : List Nd) s => (run E.L E.e f .block s).bind fun b s => (fun t u ls b s => (fun (t u : Nd) (ls : List Nd) s => if seesP E.L ⟨#[101,108,115,101]⟩ s = true then (fun (t u : Nd) (ls : List Nd) s => (run E.L E.e f .block s).bind fun c s => (fun t u ls c s => (fun (_ _ : Nd) (ls : List Nd) s => Res.ok (.mk 9 ⟨#[]⟩ 0 ls) ⟨s.i,s.dep,s.many + 1⟩) t u (ls ++ [c]) s) t u ls c s) t u ls (stepP s) else (fun (_ _ : Nd) (ls : List Nd) s => Res.ok (.mk 9 ⟨#[]⟩ 0 ls) ⟨s.i,s.dep,s.many + 1⟩) t u ls s) t u (ls ++ [b]) s) t u ls b s)) HST.out)
   go_wp2_with fail
   refine (pt_call (sr_ne HQ.out) ihB HO0.out (fun b hb => ⟨Nat.lt_of_lt_of_le HZ.out hb,fun e => Nat.lt_irrefl _ (Nat.lt_of_lt_of_le (HO.out.lt _ e).2 hb)⟩) HST.out).mono ?_
   rintro e w88 ⟨ht9,⟨v9,rfl,x_b,rfl,hst9⟩ | ⟨c9,p9,hr9,hc9,rfl⟩⟩
   rotate_left
   ·exact ⟨rfl,HT.out.then ht9,.inr ⟨_,_,hr9,hc9,rfl⟩⟩
   replace HX:=bT HX ht9 NE
   replace HO:=Lib.hid (HO.out.turned ht9 (row_ne HO.out HQ.out))
   replace HZ:=zT HZ ht9
   replace HT:=tT HT ht9
   replace HST:=Lib.hid hst9
   clear ht9 hst9
   replace HST : Hid (PT1 E rr _ (fun t u ls n s => (fun (t u : Nd) (ls : List Nd) s => if seesP E.L ⟨#[101,108,115,101]⟩ s = true then (fun (t u : Nd) (ls : List Nd) s => (run E.L E.e f .block s).bind fun c s => (fun t u ls c s => (fun (_ _ : Nd) (ls : List Nd) s => Res.ok (.mk 9 ⟨#[]⟩ 0 ls) ⟨s.i,s.dep,s.many + 1⟩) t u (ls ++ [c]) s) t u ls c s) t u ls (stepP s) else (fun (_ _ : Nd) (ls : List Nd) s => Res.ok (.mk 9 ⟨#[]⟩ 0 ls) ⟨s.i,s.dep,s.many + 1⟩) t u ls s) t u (ls ++ [n]) s) _ _ _ _ _ _):=HST.out
   replace HST:=Lib.hid (PT1.two (K:=(fun (t u : Nd) (ls : List Nd) s => if seesP E.L ⟨#[101,108,115,101]⟩ s = true then (fun (t u : Nd) (ls : List Nd) s => (run E.L E.e f .block s).bind fun c s => (fun t u ls c s => (fun (_ _ : Nd) (ls : List Nd) s => Res.ok (.mk 9 ⟨#[]⟩ 0 ls) ⟨s.i,s.dep,s.many + 1⟩) t u (ls ++ [c]) s) t u ls c s) t u ls (stepP s) else (fun (_ _ : Nd) (ls : List Nd) s => Res.ok (.mk 9 ⟨#[]⟩ 0 ls) ⟨s.i,s.dep,s.many + 1⟩) t u ls s)) HST.out)
   replace HST:=Lib.hid (HST.out.weak (S':=SR w (.slice (some ⟨(World.heap w88).size,0,none⟩) 2 2)) (fun b hb h => ⟨h.1,fun e => Nat.lt_irrefl _ (Option.some.inj e ▸ hb)⟩))
   have HO8:=Lib.hid (OwnN.new w88 (w.heap.size + 1) [x_k,x_b] (by simp) (by simp) HZ.out #[.int .i64 x_k.kind,.string x_k.text,.int .i64 x_k.num,.slice x_k.a x_k.len x_k.cap,.int .i64 x_b.kind,.string x_b.text,.int .i64 x_b.num,.slice x_b.a x_b.len x_b.cap] rfl)
   obtain ⟨o9,ho9⟩:=oNN x_k x_b
   replace HX:=bA HX o9
   replace HST:=Lib.hid (HST.out.alloc o9)
   replace HT:=tA HT o9
   replace HZ:=zA HZ o9
   subst ho9
   replace HO:=HO8
   clear HO8
   go_wp2_with fail
   (try rw [← (show (World.alloc w88 (.cells #[.int .i64 x_k.kind,.string x_k.text,.int .i64 x_k.num,.slice x_k.a x_k.len x_k.cap,.int .i64 x_b.kind,.string x_b.text,.int .i64 x_b.num,.slice x_b.a x_b.len x_b.cap] 24)).heap.size = _ from World.size_alloc _ _)])
   generalize (World.alloc w88 (.cells #[.int .i64 x_k.kind,.string x_k.text,.int .i64 x_k.num,.slice x_k.a x_k.len x_k.cap,.int .i64 x_b.kind,.string x_b.text,.int .i64 x_b.num,.slice x_b.a x_b.len x_b.cap] 24)) = w89 at *
   generalize (World.heap w88).size = g90 at *
   go_wp2_with fail
   refine (pt_takes (A:=(fun (t u : Nd) (ls : List Nd) s => (run E.L E.e f .block s).bind fun c s => (fun t u ls c s => (fun (_ _ : Nd) (ls : List Nd) s => Res.ok (.mk 9 ⟨#[]⟩ 0 ls) ⟨s.i,s.dep,s.many + 1⟩) t u (ls ++ [c]) s) t u ls c s)) (B:=(fun (_ _ : Nd) (ls : List Nd) s => Res.ok (.mk 9 ⟨#[]⟩ 0 ls) ⟨s.i,s.dep,s.many + 1⟩)) (sr_ne HQ.out) ⟨#[101,108,115,101]⟩ HST.out).mono ?_
   rintro e w91 ⟨b9,rfl,ht9,hy9,hn9⟩
   replace HX:=bT HX ht9 NE
   replace HO:=Lib.hid (HO.out.turned ht9 (row_ne HO.out HQ.out))
   replace HZ:=zT HZ ht9
   replace HT:=tT HT ht9
   clear ht9 HST
   cases b9
   ·have HST:=Lib.hid (hn9 rfl)
    clear hy9 hn9
    replace HST : Hid (PT E rr _ (fun (_ _ : Nd) (ls : List Nd) s => Res.ok (.mk 9 ⟨#[]⟩ 0 ls) ⟨s.i,s.dep,s.many + 1⟩) _ _ _ _ _):=HST.out
    go_wp2_with fail
    refine (pt_node (K:=(fun (t u : Nd) (ls : List Nd) s => (fun (_ _ : Nd) (_ : List Nd) n s => Res.ok n s) t u [] (.mk 9 ((fun _ _ => ⟨#[]⟩) t u) 0 ls) s)) (sr_ne HQ.out) 9 _ _ _ _ HST.out).mono ?_
    rintro e w92 ⟨rfl,ht9,hst9⟩
    replace HX:=bT HX ht9 NE
    replace HO:=Lib.hid (HO.out.turned ht9 (row_ne HO.out HQ.out))
    replace HZ:=zT HZ ht9
    replace HT:=tT HT ht9
    replace HST:=Lib.hid hst9
    clear ht9 hst9
    replace HST:=Lib.hid (PT.made (K:=(fun (_ _ : Nd) (_ : List Nd) n s => Res.ok n s)) (S':=SR w (.slice none 0 0)) (fun _ _ => ⟨#[]⟩) (fun _ _ _ _ => rfl) HO.out (fun b h => ⟨h.1,fun e => by cases e⟩) (fun k hk => ⟨row_gt HO.out k hk,fun e => by cases e⟩) HST.out)
    clear HO
    have HO:=Lib.hid (OwnN.nil w92 (w.heap.size + 1))
    obtain ⟨u0,u1,u2,u3,g0,g1,g2,g3,gl⟩:=HX.out.f4
    go_wp2_with fail
    clear u0 u1 u2 u3 g0 g1 g2 g3 gl
    have HEND:=Lib.hid (pt_end (x:=(⟨9,⟨#[]⟩,0,(some ⟨g90,0,none⟩),2,2⟩ : NV)) HQ.out HT.out HX.out (fun b h => h.1) HST.out rfl)
    refine open_post (fun W => Blk W w.heap.size 24 #[.int .i64 (⟨9,⟨#[]⟩,0,(some ⟨g90,0,none⟩),2,2⟩ : NV).kind,.string (⟨9,⟨#[]⟩,0,(some ⟨g90,0,none⟩),2,2⟩ : NV).text,.int .i64 (⟨9,⟨#[]⟩,0,(some ⟨g90,0,none⟩),2,2⟩ : NV).num,.slice (⟨9,⟨#[]⟩,0,(some ⟨g90,0,none⟩),2,2⟩ : NV).a (⟨9,⟨#[]⟩,0,(some ⟨g90,0,none⟩),2,2⟩ : NV).len (⟨9,⟨#[]⟩,0,(some ⟨g90,0,none⟩),2,2⟩ : NV).cap] ∧ PEnd E rr w (.returned (nvA (⟨9,⟨#[]⟩,0,(some ⟨g90,0,none⟩),2,2⟩ : NV))) W) HEND.out ?_
    rintro W ⟨hb,hE⟩
    obtain ⟨v0,v1,v2,v3,-⟩:=hb.f4
    exact bodyPost_ret (v:=nvA (⟨9,⟨#[]⟩,0,(some ⟨g90,0,none⟩),2,2⟩ : NV)) (by simp [results,Tryz.results94,go_sem,nvA,v0,v1,v2,v3]) rfl hE
   ·have HST:=Lib.hid (hy9 rfl)
    clear hy9 hn9
    replace HST : Hid (PT E rr _ (fun (t u : Nd) (ls : List Nd) s => (run E.L E.e f .block s).bind fun c s => (fun t u ls c s => (fun (_ _ : Nd) (ls : List Nd) s => Res.ok (.mk 9 ⟨#[]⟩ 0 ls) ⟨s.i,s.dep,s.many + 1⟩) t u (ls ++ [c]) s) t u ls c s) _ _ _ _ _):=HST.out
    go_wp2_with fail
    refine (pt_call (sr_ne HQ.out) ihB HO0.out (fun b hb => ⟨Nat.lt_of_lt_of_le HZ.out hb,fun e => Nat.lt_irrefl _ (Nat.lt_of_lt_of_le (HO.out.lt _ e).2 hb)⟩) HST.out).mono ?_
    rintro e w93 ⟨ht9,⟨v9,rfl,x_c,rfl,hst9⟩ | ⟨c9,p9,hr9,hc9,rfl⟩⟩
    rotate_left
    ·exact ⟨rfl,HT.out.then ht9,.inr ⟨_,_,hr9,hc9,rfl⟩⟩
    replace HX:=bT HX ht9 NE
    replace HO:=Lib.hid (HO.out.turned ht9 (row_ne HO.out HQ.out))
    replace HZ:=zT HZ ht9
    replace HT:=tT HT ht9
    replace HST:=Lib.hid hst9
    clear ht9 hst9
    replace HST : Hid (PT1 E rr _ (fun t u ls c s => (fun (_ _ : Nd) (ls : List Nd) s => Res.ok (.mk 9 ⟨#[]⟩ 0 ls) ⟨s.i,s.dep,s.many + 1⟩) t u (ls ++ [c]) s) _ _ _ _ _ _):=HST.out
    have HZ0:=HZ
    obtain ⟨o9,ho9⟩:=oN x_c
    replace HX:=bA HX o9
    replace HO:=oA HO o9
    replace HST:=Lib.hid (HST.out.alloc o9)
    replace HT:=tA HT o9
    replace HZ:=zA HZ o9
    subst ho9
    have LIE:=lN1 w93 x_c
    have BD1 : Hid (([x_k,x_b]).length ≤ 1000000):=by show _ ≤ _;simp
    have BD2 : Hid ([x_c].length ≤ 1000000):=by show _ ≤ _;simp
    go_wp2_with (at_builtin;refine wpList_joinNd rfl _ _ rfl (w.heap.size + 1) _ _ rfl HO.out (some ⟨(World.heap w93).size,0,none⟩) [x_c] 1 rfl LIE.out BD1.out BD2.out HZ.out ?_;intro A94 n95 c96 w97 hown hgr hpl;have HOWN:=Lib.hid hown;have HGR:=Lib.hid hgr;have HPL:=Lib.hid hpl;clear hown hgr hpl)
    replace HX:=Lib.hid (HX.out.grown HGR.out (row_nw HO.out))
    replace HZ:=Lib.hid (Nat.lt_of_lt_of_le HZ.out HGR.out.size)
    replace HT:=Lib.hid (HT.out.grown HGR.out (fun k e => .inr (row_ge HO.out k e)))
    replace HST:=Lib.hid (PT1.push (K:=(fun (_ _ : Nd) (ls : List Nd) s => Res.ok (.mk 9 ⟨#[]⟩ 0 ls) ⟨s.i,s.dep,s.many + 1⟩)) HST.out HQ.out HO.out HGR.out HPL.out)
    replace HO:=HOWN
    clear LIE HGR HPL HOWN
    go_wp2_with fail
    refine (pt_node (K:=(fun (t u : Nd) (ls : List Nd) s => (fun (_ _ : Nd) (_ : List Nd) n s => Res.ok n s) t u [] (.mk 9 ((fun _ _ => ⟨#[]⟩) t u) 0 ls) s)) (sr_ne HQ.out) 9 _ _ _ _ HST.out).mono ?_
    rintro e w98 ⟨rfl,ht9,hst9⟩
    replace HX:=bT HX ht9 NE
    replace HO:=Lib.hid (HO.out.turned ht9 (row_ne HO.out HQ.out))
    replace HZ:=zT HZ ht9
    replace HT:=tT HT ht9
    replace HST:=Lib.hid hst9
    clear ht9 hst9
    replace HST:=Lib.hid (PT.made (K:=(fun (_ _ : Nd) (_ : List Nd) n s => Res.ok n s)) (S':=SR w (.slice none 0 0)) (fun _ _ => ⟨#[]⟩) (fun _ _ _ _ => rfl) HO.out (fun b h => ⟨h.1,fun e => by cases e⟩) (fun k hk => ⟨row_gt HO.out k hk,fun e => by cases e⟩) HST.out)
    clear HO
    have HO:=Lib.hid (OwnN.nil w98 (w.heap.size + 1))
    obtain ⟨u0,u1,u2,u3,g0,g1,g2,g3,gl⟩:=HX.out.f4
    go_wp2_with fail
    clear u0 u1 u2 u3 g0 g1 g2 g3 gl
    have HEND:=Lib.hid (pt_end (x:=(⟨9,⟨#[]⟩,0,A94,n95,c96⟩ : NV)) HQ.out HT.out HX.out (fun b h => h.1) HST.out rfl)
    refine open_post (fun W => Blk W w.heap.size 24 #[.int .i64 (⟨9,⟨#[]⟩,0,A94,n95,c96⟩ : NV).kind,.string (⟨9,⟨#[]⟩,0,A94,n95,c96⟩ : NV).text,.int .i64 (⟨9,⟨#[]⟩,0,A94,n95,c96⟩ : NV).num,.slice (⟨9,⟨#[]⟩,0,A94,n95,c96⟩ : NV).a (⟨9,⟨#[]⟩,0,A94,n95,c96⟩ : NV).len (⟨9,⟨#[]⟩,0,A94,n95,c96⟩ : NV).cap] ∧ PEnd E rr w (.returned (nvA (⟨9,⟨#[]⟩,0,A94,n95,c96⟩ : NV))) W) HEND.out ?_
    rintro W ⟨hb,hE⟩
    obtain ⟨v0,v1,v2,v3,-⟩:=hb.f4
    exact bodyPost_ret (v:=nvA (⟨9,⟨#[]⟩,0,A94,n95,c96⟩ : NV)) (by simp [results,Tryz.results94,go_sem,nvA,v0,v1,v2,v3]) rfl hE
 ·have HST:=Lib.hid (hy9 rfl)
  clear hy9 hn9
  replace HST : Hid (PT E rr _ (fun (_ u : Nd) (ls : List Nd) s => (nameP E.L E.e s).bind fun t s => (fun (t u : Nd) (ls : List Nd) s => (wantP E.L E.e ⟨#[61]⟩ s).bind fun _ s => (fun (t u : Nd) (ls : List Nd) s => (run E.L E.e f .expr s).bind fun k s => (fun (t _ : Nd) (_ : List Nd) k s => endS E (.mk 7 t.text 0 [k]) s) t u ls k s) t u ls s) t u ls s) _ _ _ _ _):=HST.out
  go_wp2_with fail
  refine (pt_name1 (sr_ne HQ.out) HST.out).mono ?_
  rintro e w99 ⟨ht9,⟨v9,rfl,t,rfl,hst9⟩ | ⟨c9,p9,hr9,hc9,rfl⟩⟩
  rotate_left
  ·exact ⟨rfl,HT.out.then ht9,.inr ⟨_,_,hr9,hc9,rfl⟩⟩
  replace HX:=bT HX ht9 NE
  replace HO:=Lib.hid (HO.out.turned ht9 (row_ne HO.out HQ.out))
  replace HZ:=zT HZ ht9
  replace HT:=tT HT ht9
  replace HST:=Lib.hid hst9
  clear ht9 hst9
  go_wp2_with fail
  have HB_k100:=Lib.hid (Blk.new w99 9 #[.string ⟨#[61]⟩])
  have NB_k100:=nE HQ HZ
  have HG_k100 : Hid (w.heap.size < (World.heap w99).size):=HZ.out
  replace HX:=bA HX (.cells #[.string ⟨#[61]⟩] 9)
  replace HO:=oA HO (.cells #[.string ⟨#[61]⟩] 9)
  replace HST:=Lib.hid (HST.out.alloc (.cells #[.string ⟨#[61]⟩] 9))
  replace HT:=tA HT (.cells #[.string ⟨#[61]⟩] 9)
  replace HZ:=zA HZ (.cells #[.string ⟨#[61]⟩] 9)
  go_wp2_with fail
  (try rw [← (show (World.alloc w99 (.cells #[.string ⟨#[61]⟩] 9)).heap.size = _ from World.size_alloc _ _)])
  generalize (World.alloc w99 (.cells #[.string ⟨#[61]⟩] 9)) = w101 at *
  generalize (World.heap w99).size = b_k100 at *
  refine (pt_want (sr_ne HQ.out) (g:=b_k100) _ HB_k100.out.f1.1 NB_k100.out HB_k100.out.lt HST.out).mono ?_
  rintro e w102 ⟨ht9,⟨v9,rfl,rfl,hst9⟩ | ⟨c9,p9,hr9,hc9,rfl⟩⟩
  rotate_left
  ·exact ⟨rfl,HT.out.then ht9,.inr ⟨_,_,hr9,hc9,rfl⟩⟩
  clear HB_k100 NB_k100 HG_k100
  replace HX:=bT HX ht9 NE
  replace HO:=Lib.hid (HO.out.turned ht9 (row_ne HO.out HQ.out))
  replace HZ:=zT HZ ht9
  replace HT:=tT HT ht9
  replace HST:=Lib.hid hst9
  clear ht9 hst9
  go_wp2_with fail
  refine (pt_call (sr_ne HQ.out) ihX HO0.out (fun b hb => ⟨Nat.lt_of_lt_of_le HZ.out hb,fun e => Nat.lt_irrefl _ (Nat.lt_of_lt_of_le (HO.out.lt _ e).2 hb)⟩) HST.out).mono ?_
  rintro e w103 ⟨ht9,⟨v9,rfl,x_k,rfl,hst9⟩ | ⟨c9,p9,hr9,hc9,rfl⟩⟩
  rotate_left
  ·exact ⟨rfl,HT.out.then ht9,.inr ⟨_,_,hr9,hc9,rfl⟩⟩
  replace HX:=bT HX ht9 NE
  replace HO:=Lib.hid (HO.out.turned ht9 (row_ne HO.out HQ.out))
  replace HZ:=zT HZ ht9
  replace HT:=tT HT ht9
  replace HST:=Lib.hid hst9
  clear ht9 hst9
  replace HST : Hid (PT1 E rr _ (fun t u (_ : List Nd) n s => (fun (t u : Nd) (ls : List Nd) s => endS E (.mk 7 t.text 0 ls) s) t u [n] s) _ _ _ _ _ _):=HST.out
  replace HST:=Lib.hid (PT1.first (K:=(fun (t u : Nd) (ls : List Nd) s => endS E (.mk 7 t.text 0 ls) s)) HST.out)
  replace HST:=Lib.hid (HST.out.weak (S':=SR w (.slice (some ⟨(World.heap w103).size,0,none⟩) 1 1)) (fun b hb h => ⟨h.1,fun e => Nat.lt_irrefl _ (Option.some.inj e ▸ hb)⟩))
  have HO8:=Lib.hid (OwnN.new w103 (w.heap.size + 1) [x_k] (by simp) (by simp) HZ.out #[.int .i64 x_k.kind,.string x_k.text,.int .i64 x_k.num,.slice x_k.a x_k.len x_k.cap] rfl)
  obtain ⟨o9,ho9⟩:=oN x_k
  replace HX:=bA HX o9
  replace HST:=Lib.hid (HST.out.alloc o9)
  replace HT:=tA HT o9
  replace HZ:=zA HZ o9
  subst ho9
  replace HO:=HO8
  clear HO8
  go_wp2_with fail
  (try rw [← (show (World.alloc w103 (.cells #[.int .i64 x_k.kind,.string x_k.text,.int .i64 x_k.num,.slice x_k.a x_k.len x_k.cap] 24)).heap.size = _ from World.size_alloc _ _)])
  generalize (World.alloc w103 (.cells #[.int .i64 x_k.kind,.string x_k.text,.int .i64 x_k.num,.slice x_k.a x_k.len x_k.cap] 24)) = w104 at *
  generalize (World.heap w103).size = g105 at *
  go_wp2_with fail
  refine (pt_node (K:=(fun (t u : Nd) (ls : List Nd) s => (fun (_ _ : Nd) (_ : List Nd) n s => (wantP E.L E.e ⟨#[59]⟩ s).bind fun _ s => (fun (_ _ : Nd) (_ : List Nd) n s => Res.ok n s) nd0 nd0 [] n s) t u [] (.mk 7 ((fun (t _ : Nd) => t.text) t u) 0 ls) s)) (sr_ne HQ.out) 7 _ _ _ _ HST.out).mono ?_
  rintro e w106 ⟨rfl,ht9,hst9⟩
  replace HX:=bT HX ht9 NE
  replace HO:=Lib.hid (HO.out.turned ht9 (row_ne HO.out HQ.out))
  replace HZ:=zT HZ ht9
  replace HT:=tT HT ht9
  replace HST:=Lib.hid hst9
  clear ht9 hst9
  replace HST:=Lib.hid (PT.made (K:=(fun (_ _ : Nd) (_ : List Nd) n s => (wantP E.L E.e ⟨#[59]⟩ s).bind fun _ s => (fun (_ _ : Nd) (_ : List Nd) n s => Res.ok n s) nd0 nd0 [] n s)) (S':=SR w (.slice none 0 0)) (fun (t _ : Nd) => t.text) (fun _ _ h _ => h.symm) HO.out (fun b h => ⟨h.1,fun e => by cases e⟩) (fun k hk => ⟨row_gt HO.out k hk,fun e => by cases e⟩) HST.out)
  clear HO
  have HO:=Lib.hid (OwnN.nil w106 (w.heap.size + 1))
  replace HST : Hid (PT1 E rr _ (fun (_ _ : Nd) (_ : List Nd) n s => (wantP E.L E.e ⟨#[59]⟩ s).bind fun _ s => (fun (_ _ : Nd) (_ : List Nd) n s => Res.ok n s) nd0 nd0 [] n s) _ _ _ _ _ _):=HST.out
  go_wp2_with fail
  refine (pended_any (sr_ne HQ.out) (Nat.lt_trans HQ.out HZ.out) HST.out).mono ?_
  rintro e w107 ⟨ht9,⟨v9,rfl,rfl,hst9⟩ | ⟨c9,p9,hr9,hc9,rfl⟩⟩
  rotate_left
  ·exact ⟨rfl,HT.out.then ht9,.inr ⟨_,_,hr9,hc9,rfl⟩⟩
  replace HX:=bT HX ht9 NE
  replace HO:=Lib.hid (HO.out.turned ht9 (row_ne HO.out HQ.out))
  replace HZ:=zT HZ ht9
  replace HT:=tT HT ht9
  replace HST:=Lib.hid hst9
  clear ht9 hst9
  replace HST : Hid (PT1 E rr _ (fun (_ _ : Nd) (_ : List Nd) n s => Res.ok n s) _ _ _ _ _ _):=HST.out
  obtain ⟨u0,u1,u2,u3,g0,g1,g2,g3,gl⟩:=HX.out.f4
  go_wp2_with fail
  clear u0 u1 u2 u3 g0 g1 g2 g3 gl
  have HEND:=Lib.hid (pt_end (x:=(⟨7,t,0,(some ⟨g105,0,none⟩),1,1⟩ : NV)) HQ.out HT.out HX.out (fun b h => h.1) HST.out rfl)
  refine open_post (fun W => Blk W w.heap.size 24 #[.int .i64 (⟨7,t,0,(some ⟨g105,0,none⟩),1,1⟩ : NV).kind,.string (⟨7,t,0,(some ⟨g105,0,none⟩),1,1⟩ : NV).text,.int .i64 (⟨7,t,0,(some ⟨g105,0,none⟩),1,1⟩ : NV).num,.slice (⟨7,t,0,(some ⟨g105,0,none⟩),1,1⟩ : NV).a (⟨7,t,0,(some ⟨g105,0,none⟩),1,1⟩ : NV).len (⟨7,t,0,(some ⟨g105,0,none⟩),1,1⟩ : NV).cap] ∧ PEnd E rr w (.returned (nvA (⟨7,t,0,(some ⟨g105,0,none⟩),1,1⟩ : NV))) W) HEND.out ?_
  rintro W ⟨hb,hE⟩
  obtain ⟨v0,v1,v2,v3,-⟩:=hb.f4
  exact bodyPost_ret (v:=nvA (⟨7,t,0,(some ⟨g105,0,none⟩),1,1⟩ : NV)) (by simp [results,Tryz.results94,go_sem,nvA,v0,v1,v2,v3]) rfl hE
end Go.Proofs.YtbpldfmmlgkfnaaGreatDoor
