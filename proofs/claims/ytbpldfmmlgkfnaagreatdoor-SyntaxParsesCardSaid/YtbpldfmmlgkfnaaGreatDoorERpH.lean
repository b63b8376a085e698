/- The document's parser: nodes of so many expressions; blocks where the parser has given up. Conditions: what expressions do. -/
import Derived.Test.YtbpldfmmlgkfnaaGreatDoorEMemZ
import Derived.Test.YtbpldfmmlgkfnaaGreatDoorERpS
namespace Go.Proofs.YtbpldfmmlgkfnaaGreatDoor
open Go.RowKit
set_option linter.unusedVariables false
/-- So many expressions still to come in parentheses, then a semicolon. -/
def someL (L : List Tok) (e f : Nat) (k : Int) : Nat → Bool → List Nd → PS → Res
 | 0,_,ls,s => (wantP L e ⟨#[41]⟩ s).bind fun _ s => (wantP L e ⟨#[59]⟩ s).bind fun _ s => .ok (.mk k ⟨#[]⟩ 0 ls) ⟨s.i,s.dep,s.many + 1⟩
 | m + 1,b,ls,s => (if b = true then .ok nd0 s else wantP L e ⟨#[44]⟩ s).bind fun _ s => (run L e f .expr s).bind fun n s => someL L e f k m false (ls ++ [n]) s
def someP (L : List Tok) (e f : Nat) (k : Int) (m : Nat) (s : PS) : Res:=(wantP L e ⟨#[40]⟩ s).bind fun _ s => someL L e f k m true [] s
/-- What the loop holds. -/
def SInv (w : World) (E : Env) (rr : Res) (f : Nat) (k : Int) (m j : Nat) (v : Value) (wr : World) : Prop :=
 Turned w wr (fun b => b = E.Q) ∧ w.heap.size < wr.heap.size ∧ Blk wr w.heap.size 24 #[.int .i64 0,.string ⟨#[]⟩,.int .i64 0,.slice none 0 0] ∧
  ∃ A n c xs,v = .slice A n c ∧ OwnN wr (w.heap.size + 1) (.slice A n c) xs ∧ xs.length ≤ j ∧
   ((∃ ls s',rr = someL E.L E.e f k (m - j) (decide (j = 0)) ls s' ∧ RGood wr E s' ∧ AllN wr (SR w (.slice A n c)) xs ls) ∨ (∃ c p,rr = .no c p ∧ RBad wr E c p))

set_option maxRecDepth 100000 in
set_option maxHeartbeats 1600000 in
theorem rsome_any {f : Nat} (ihX : RCall f .expr 113) (bdX : RFlat 113) {E : Env} {s : PS} {w : World} (k : Int) (m : Nat) (hm : m ≤ 2) (h : RGood w E s) (hout : someP E.L E.e f k m s ≠ .out) : Calls Tryz.prog 114 #[.pointer (some ⟨E.Q,0,none⟩),.int .i64 k,.int .i64 (m : Int)] w (REnd E (someP E.L E.e f k m s) w):=by
 have hE : RAt w E (.ok nd0 s):=h
 have HO:=Lib.hid hout
 generalize hrr : someP E.L E.e f k m s = rr at *
 have hr:=hrr.symm
 simp only [someP,] at hr
 have HR:=Lib.hid hr
 clear hrr hr hout
 have HE:=Lib.hid hE.env
 have HQ:=Lib.hid hE.old
 have NE : Hid (¬ w.heap.size = E.Q):=by have:=hE.old;show ¬ _;omega
 have NS : Hid (∀ b,(fun b => w.heap.size < b) b → ¬ b = E.Q):=fun b hb e => by have h1:=hE.old;have h2 : w.heap.size < b:=hb;omega
 obtain ⟨o9,ho9⟩:=oZ
 have hb0:=bl w o9
 have HS:=Lib.hid (h.below hb0)
 have HT:=Lib.hid (Turned.of_below (fun b => b = E.Q) hb0)
 have HX:=zB w
 have HZ:=zN w o9
 subst ho9
 clear h hE hb0
 go_enter Tryz.func114,Tryz.ntmps114
 obtain ⟨o9,ho9⟩:=oZ
 have HO_r:=Lib.hid (OwnN.nil (w.alloc o9) (w.heap.size + 1))
 have HA_r:=Lib.hid (AllN.nil (w.alloc o9) (SR w (.slice none 0 0)))
 subst ho9
 have NS:=Lib.hid (sr_ne (w:=w) (v:=.slice none 0 0) HQ.out)
 go_wp2_with fail
 generalize (w.alloc (.cells #[.int .i64 0,.string ⟨#[]⟩,.int .i64 0,.slice none 0 0] 24)) = w1 at *
 refine (rwant_two HS.out _).mono ?_
 rintro e w2 ⟨rfl,ht9,(⟨m9,s3,hr9,hs9⟩ | ⟨c9,p9,hr9,hs9⟩)⟩
 ·replace HR:=Lib.hid (HR.out.trans (bind_ok hr9))
  clear hr9
  replace HX:=bT HX ht9 NE
  replace HA_r:=Lib.hid (HA_r.out.turned ht9 (sr_ne HQ.out))
  replace HO_r:=Lib.hid (HO_r.out.turned ht9 (row_ne HO_r.out HQ.out))
  replace HZ:=zT HZ ht9
  replace HT:=tT HT ht9
  replace HS:=Lib.hid hs9
  clear ht9 hs9
  go_wp2_with fail
  go_loopw [7,8] (fun v u wr => ∃ j : Nat,u = .int .i64 (j : Int) ∧ j ≤ m ∧ SInv w E rr f k m j v wr) (fun _ u _ => m - (intOf u).toNat)
  case atStart => exact ⟨0,rfl,Nat.zero_le _,HT.out,HZ.out,HX.out,_,_,_,_,rfl,HO_r.out,Nat.le_refl _,.inl ⟨[],_,HR.out,HS.out,HA_r.out⟩⟩
  case round =>
   clear HT HZ HX HO_r HR HS HA_r
   obtain ⟨i,rfl,hi,ht,hz,hx,A_r,n_r,c_r,xs_r,rfl,ho,hl,hg⟩:=hrel
   have HT:=Lib.hid ht
   have HZ:=Lib.hid hz
   have HX:=Lib.hid hx
   have HO_r:=Lib.hid ho
   have HL:=Lib.hid hl
   clear ht hz hx ho hl
   have hwi : IntKind.i64.wrap ((i : Int) + 1) = (i : Int) + 1:=IntWalk.i64_in _ (by omega)
   rcases hg with ⟨ls_r,s1,hr,hs,ha⟩ | ⟨c1,p1,hr,hs⟩
   ·have HS:=Lib.hid hs
    have HA_r:=Lib.hid ha
    have NS:=Lib.hid (sr_ne (w:=w) (v:=.slice A_r n_r c_r) HQ.out)
    clear hs ha
    by_cases him : i < m
    ·rw [show m - i = (m - (i + 1)) + 1 by omega] at hr
     by_cases hi0 : i = 0
     ·rw [decide_eq_true hi0] at hr
      have HR : Hid (rr = (run E.L E.e f .expr s1).bind fun n s => someL E.L E.e f k (m - (i + 1)) false (ls_r ++ [n]) s):=hr
      have hi1 : ¬ (0 : Int) < (i : Int):=by omega
      clear hr hi0
      go_wp2_with fail
      refine ((ihX E) _ _ HS.out (fun h => HO.out (HR.out.trans (bind_out h)))).mono ?_
      rintro e w4 hq9
      rcases hq9.two (fun h => HO.out (HR.out.trans (bind_out h))) with ⟨n_k,s5,x_k,hr9,rfl,ht9,hs9,hi9⟩ | ⟨c9,p9,x_k,hr9,rfl,ht9,hs9⟩
      ·replace HR:=Lib.hid (HR.out.trans (bind_ok hr9))
       clear hr9 hq9
       have T_k:=Lib.hid (hi9.weak (S':=(SR w (.slice A_r n_r c_r))) (fun b hb h => ⟨Nat.lt_of_lt_of_le HZ.out h,fun e => Nat.lt_irrefl _ (Nat.lt_of_lt_of_le (HO_r.out.lt _ e).2 h)⟩))
       clear hi9
       replace HX:=bT HX ht9 NE
       replace HA_r:=Lib.hid (HA_r.out.turned ht9 (sr_ne HQ.out))
       replace HO_r:=Lib.hid (HO_r.out.turned ht9 (row_ne HO_r.out HQ.out))
       replace HZ:=zT HZ ht9
       replace HT:=tT HT ht9
       replace HS:=Lib.hid hs9
       clear ht9 hs9
       have NE_k:=nE HQ HZ
       have HB_k:=nB w4 x_k
       obtain ⟨o9,ho9⟩:=oN x_k
       replace HX:=bA HX o9
       replace T_k:=nA T_k o9
       replace HA_r:=Lib.hid (HA_r.out.alloc o9)
       replace HO_r:=oA HO_r o9
       replace HS:=Lib.hid (HS.out.below (bl _ o9))
       replace HT:=tA HT o9
       replace HZ:=zA HZ o9
       have HZ0:=HZ
       have HSZ:=Lib.hid HZ.out
       replace HX:=bA HX o9
       replace HB_k:=bA HB_k o9
       replace T_k:=nA T_k o9
       replace HA_r:=Lib.hid (HA_r.out.alloc o9)
       replace HO_r:=oA HO_r o9
       replace HS:=Lib.hid (HS.out.below (bl _ o9))
       replace HT:=tA HT o9
       replace HZ:=zA HZ o9
       subst ho9
       have LIE:=lN2 w4 x_k
       have BD1 : Hid ((xs_r).length ≤ 1000000):=by have:=HL.out;show _ ≤ _;omega
       have BD2 : Hid ([x_k].length ≤ 1000000):=by show _ ≤ _;simp
       go_wp2_with (at_builtin;refine wpList_joinNd rfl _ _ rfl (w.heap.size + 1) _ _ rfl HO_r.out (some ⟨w4.heap.size + 1,0,none⟩) [x_k] 1 rfl LIE.out BD1.out BD2.out HZ.out ?_;intro A6 n7 c8 w9 hown hgr hpl;have HOWN:=Lib.hid hown;have HGR:=Lib.hid hgr;have HPL:=Lib.hid hpl;clear hown hgr hpl)
       replace HX:=Lib.hid (HX.out.grown HGR.out (row_nw HO_r.out))
       replace HZ:=Lib.hid (Nat.lt_of_lt_of_le HZ.out HGR.out.size)
       replace HT:=Lib.hid (HT.out.grown HGR.out (fun k e => .inr (row_ge HO_r.out k e)))
       have hs9 : RGood _ _ _:=RAt.grown (r:=.ok nd0 _) HS.out HE.out HQ.out HGR.out (row_ge HO_r.out)
       replace HA_r:=Lib.hid (HA_r.out.pushed T_k.out HO_r.out HGR.out HPL.out)
       replace HS:=Lib.hid hs9
       replace HO_r:=HOWN
       clear hs9 LIE HGR HPL HOWN
       have NS:=Lib.hid (sr_ne (w:=w) (v:=.slice A6 n7 c8) HQ.out)
       have HRJ : Hid (rr = someL E.L E.e f k (m - (i + 1)) (decide (i + 1 = 0)) _ _):=HR.out
       go_roundw
       case rel => exact ⟨i + 1,by go_num,by omega,HT.out,HZ.out,HX.out,_,_,_,_,rfl,HO_r.out,by have:=HL.out;simp;omega,.inl ⟨_,_,HRJ.out,HS.out,HA_r.out⟩⟩
       case measure => simp [intOf];omega
      ·replace HR:=Lib.hid (HR.out.trans (bind_no hr9))
       clear hr9 hq9
       replace HX:=bT HX ht9 NE
       replace HO_r:=Lib.hid (HO_r.out.turned ht9 (row_ne HO_r.out HQ.out))
       replace HZ:=zT HZ ht9
       replace HT:=tT HT ht9
       replace HS:=Lib.hid hs9
       clear ht9 hs9
       have NE_k:=nE HQ HZ
       have HB_k:=nB w4 x_k
       obtain ⟨o9,ho9⟩:=oN x_k
       replace HX:=bA HX o9
       replace HO_r:=oA HO_r o9
       replace HS:=Lib.hid (HS.out.below (bl _ o9))
       replace HT:=tA HT o9
       replace HZ:=zA HZ o9
       have HZ0:=HZ
       have HSZ:=Lib.hid HZ.out
       replace HX:=bA HX o9
       replace HB_k:=bA HB_k o9
       replace HO_r:=oA HO_r o9
       replace HS:=Lib.hid (HS.out.below (bl _ o9))
       replace HT:=tA HT o9
       replace HZ:=zA HZ o9
       subst ho9
       have LIE:=lN2 w4 x_k
       have BD1 : Hid ((xs_r).length ≤ 1000000):=by have:=HL.out;show _ ≤ _;omega
       have BD2 : Hid ([x_k].length ≤ 1000000):=by show _ ≤ _;simp
       go_wp2_with (at_builtin;refine wpList_joinNd rfl _ _ rfl (w.heap.size + 1) _ _ rfl HO_r.out (some ⟨w4.heap.size + 1,0,none⟩) [x_k] 1 rfl LIE.out BD1.out BD2.out HZ.out ?_;intro A10 n11 c12 w13 hown hgr hpl;have HOWN:=Lib.hid hown;have HGR:=Lib.hid hgr;have HPL:=Lib.hid hpl;clear hown hgr hpl)
       replace HX:=Lib.hid (HX.out.grown HGR.out (row_nw HO_r.out))
       replace HZ:=Lib.hid (Nat.lt_of_lt_of_le HZ.out HGR.out.size)
       replace HT:=Lib.hid (HT.out.grown HGR.out (fun k e => .inr (row_ge HO_r.out k e)))
       have hs9 : RBad _ _ _ _:=RAt.grown (r:=.no _ _) HS.out HE.out HQ.out HGR.out (row_ge HO_r.out)
       replace HS:=Lib.hid hs9
       replace HO_r:=HOWN
       clear hs9 LIE HGR HPL HOWN
       have NS:=Lib.hid (sr_ne (w:=w) (v:=.slice A10 n11 c12) HQ.out)
       go_roundw
       case rel => exact ⟨i + 1,by go_num,by omega,HT.out,HZ.out,HX.out,_,_,_,_,rfl,HO_r.out,by have:=HL.out;simp;omega,.inr ⟨_,_,HR.out,HS.out⟩⟩
       case measure => simp [intOf];omega
     ·rw [decide_eq_false hi0] at hr
      have HR : Hid (rr = (wantP E.L E.e ⟨#[44]⟩ s1).bind fun _ s => (run E.L E.e f .expr s).bind fun n s => someL E.L E.e f k (m - (i + 1)) false (ls_r ++ [n]) s):=hr
      have hi1 : (0 : Int) < (i : Int):=by omega
      clear hr hi0
      go_wp2_with fail
      refine (rwant_two HS.out _).mono ?_
      rintro e w14 ⟨rfl,ht9,(⟨m9,s15,hr9,hs9⟩ | ⟨c9,p9,hr9,hs9⟩)⟩
      ·replace HR:=Lib.hid (HR.out.trans (bind_ok hr9))
       clear hr9
       replace HX:=bT HX ht9 NE
       replace HA_r:=Lib.hid (HA_r.out.turned ht9 (sr_ne HQ.out))
       replace HO_r:=Lib.hid (HO_r.out.turned ht9 (row_ne HO_r.out HQ.out))
       replace HZ:=zT HZ ht9
       replace HT:=tT HT ht9
       replace HS:=Lib.hid hs9
       clear ht9 hs9
       go_wp2_with fail
       refine ((ihX E) _ _ HS.out (fun h => HO.out (HR.out.trans (bind_out h)))).mono ?_
       rintro e w16 hq9
       rcases hq9.two (fun h => HO.out (HR.out.trans (bind_out h))) with ⟨n_k,s17,x_k,hr9,rfl,ht9,hs9,hi9⟩ | ⟨c9,p9,x_k,hr9,rfl,ht9,hs9⟩
       ·replace HR:=Lib.hid (HR.out.trans (bind_ok hr9))
        clear hr9 hq9
        have T_k:=Lib.hid (hi9.weak (S':=(SR w (.slice A_r n_r c_r))) (fun b hb h => ⟨Nat.lt_of_lt_of_le HZ.out h,fun e => Nat.lt_irrefl _ (Nat.lt_of_lt_of_le (HO_r.out.lt _ e).2 h)⟩))
        clear hi9
        replace HX:=bT HX ht9 NE
        replace HA_r:=Lib.hid (HA_r.out.turned ht9 (sr_ne HQ.out))
        replace HO_r:=Lib.hid (HO_r.out.turned ht9 (row_ne HO_r.out HQ.out))
        replace HZ:=zT HZ ht9
        replace HT:=tT HT ht9
        replace HS:=Lib.hid hs9
        clear ht9 hs9
        have NE_k:=nE HQ HZ
        have HB_k:=nB w16 x_k
        obtain ⟨o9,ho9⟩:=oN x_k
        replace HX:=bA HX o9
        replace T_k:=nA T_k o9
        replace HA_r:=Lib.hid (HA_r.out.alloc o9)
        replace HO_r:=oA HO_r o9
        replace HS:=Lib.hid (HS.out.below (bl _ o9))
        replace HT:=tA HT o9
        replace HZ:=zA HZ o9
        have HZ0:=HZ
        have HSZ:=Lib.hid HZ.out
        replace HX:=bA HX o9
        replace HB_k:=bA HB_k o9
        replace T_k:=nA T_k o9
        replace HA_r:=Lib.hid (HA_r.out.alloc o9)
        replace HO_r:=oA HO_r o9
        replace HS:=Lib.hid (HS.out.below (bl _ o9))
        replace HT:=tA HT o9
        replace HZ:=zA HZ o9
        subst ho9
        have LIE:=lN2 w16 x_k
        have BD1 : Hid ((xs_r).length ≤ 1000000):=by have:=HL.out;show _ ≤ _;omega
        have BD2 : Hid ([x_k].length ≤ 1000000):=by show _ ≤ _;simp
        go_wp2_with (at_builtin;refine wpList_joinNd rfl _ _ rfl (w.heap.size + 1) _ _ rfl HO_r.out (some ⟨w16.heap.size + 1,0,none⟩) [x_k] 1 rfl LIE.out BD1.out BD2.out HZ.out ?_;intro A18 n19 c20 w21 hown hgr hpl;have HOWN:=Lib.hid hown;have HGR:=Lib.hid hgr;have HPL:=Lib.hid hpl;clear hown hgr hpl)
        replace HX:=Lib.hid (HX.out.grown HGR.out (row_nw HO_r.out))
        replace HZ:=Lib.hid (Nat.lt_of_lt_of_le HZ.out HGR.out.size)
        replace HT:=Lib.hid (HT.out.grown HGR.out (fun k e => .inr (row_ge HO_r.out k e)))
        have hs9 : RGood _ _ _:=RAt.grown (r:=.ok nd0 _) HS.out HE.out HQ.out HGR.out (row_ge HO_r.out)
        replace HA_r:=Lib.hid (HA_r.out.pushed T_k.out HO_r.out HGR.out HPL.out)
        replace HS:=Lib.hid hs9
        replace HO_r:=HOWN
        clear hs9 LIE HGR HPL HOWN
        have NS:=Lib.hid (sr_ne (w:=w) (v:=.slice A18 n19 c20) HQ.out)
        have HRJ : Hid (rr = someL E.L E.e f k (m - (i + 1)) (decide (i + 1 = 0)) _ _):=HR.out
        go_roundw
        case rel => exact ⟨i + 1,by go_num,by omega,HT.out,HZ.out,HX.out,_,_,_,_,rfl,HO_r.out,by have:=HL.out;simp;omega,.inl ⟨_,_,HRJ.out,HS.out,HA_r.out⟩⟩
        case measure => simp [intOf];omega
       ·replace HR:=Lib.hid (HR.out.trans (bind_no hr9))
        clear hr9 hq9
        replace HX:=bT HX ht9 NE
        replace HO_r:=Lib.hid (HO_r.out.turned ht9 (row_ne HO_r.out HQ.out))
        replace HZ:=zT HZ ht9
        replace HT:=tT HT ht9
        replace HS:=Lib.hid hs9
        clear ht9 hs9
        have NE_k:=nE HQ HZ
        have HB_k:=nB w16 x_k
        obtain ⟨o9,ho9⟩:=oN x_k
        replace HX:=bA HX o9
        replace HO_r:=oA HO_r o9
        replace HS:=Lib.hid (HS.out.below (bl _ o9))
        replace HT:=tA HT o9
        replace HZ:=zA HZ o9
        have HZ0:=HZ
        have HSZ:=Lib.hid HZ.out
        replace HX:=bA HX o9
        replace HB_k:=bA HB_k o9
        replace HO_r:=oA HO_r o9
        replace HS:=Lib.hid (HS.out.below (bl _ o9))
        replace HT:=tA HT o9
        replace HZ:=zA HZ o9
        subst ho9
        have LIE:=lN2 w16 x_k
        have BD1 : Hid ((xs_r).length ≤ 1000000):=by have:=HL.out;show _ ≤ _;omega
        have BD2 : Hid ([x_k].length ≤ 1000000):=by show _ ≤ _;simp
        go_wp2_with (at_builtin;refine wpList_joinNd rfl _ _ rfl (w.heap.size + 1) _ _ rfl HO_r.out (some ⟨w16.heap.size + 1,0,none⟩) [x_k] 1 rfl LIE.out BD1.out BD2.out HZ.out ?_;intro A22 n23 c24 w25 hown hgr hpl;have HOWN:=Lib.hid hown;have HGR:=Lib.hid hgr;have HPL:=Lib.hid hpl;clear hown hgr hpl)
        replace HX:=Lib.hid (HX.out.grown HGR.out (row_nw HO_r.out))
        replace HZ:=Lib.hid (Nat.lt_of_lt_of_le HZ.out HGR.out.size)
        replace HT:=Lib.hid (HT.out.grown HGR.out (fun k e => .inr (row_ge HO_r.out k e)))
        have hs9 : RBad _ _ _ _:=RAt.grown (r:=.no _ _) HS.out HE.out HQ.out HGR.out (row_ge HO_r.out)
        replace HS:=Lib.hid hs9
        replace HO_r:=HOWN
        clear hs9 LIE HGR HPL HOWN
        have NS:=Lib.hid (sr_ne (w:=w) (v:=.slice A22 n23 c24) HQ.out)
        go_roundw
        case rel => exact ⟨i + 1,by go_num,by omega,HT.out,HZ.out,HX.out,_,_,_,_,rfl,HO_r.out,by have:=HL.out;simp;omega,.inr ⟨_,_,HR.out,HS.out⟩⟩
        case measure => simp [intOf];omega
      ·replace HR:=Lib.hid (HR.out.trans (bind_no hr9))
       clear hr9
       replace HX:=bT HX ht9 NE
       replace HO_r:=Lib.hid (HO_r.out.turned ht9 (row_ne HO_r.out HQ.out))
       replace HZ:=zT HZ ht9
       replace HT:=tT HT ht9
       replace HS:=Lib.hid hs9
       clear ht9 hs9
       go_wp2_with fail
       refine ((bdX E _ _ _) HS.out).mono ?_
       rintro e w26 ⟨x_k,rfl,ht9,hs9,-⟩
       have hs9 : RBad _ _ _ _:=hs9
       replace HX:=bT HX ht9 NE
       replace HO_r:=Lib.hid (HO_r.out.turned ht9 (row_ne HO_r.out HQ.out))
       replace HZ:=zT HZ ht9
       replace HT:=tT HT ht9
       replace HS:=Lib.hid hs9
       clear ht9 hs9
       have NE_k:=nE HQ HZ
       have HB_k:=nB w26 x_k
       obtain ⟨o9,ho9⟩:=oN x_k
       replace HX:=bA HX o9
       replace HO_r:=oA HO_r o9
       replace HS:=Lib.hid (HS.out.below (bl _ o9))
       replace HT:=tA HT o9
       replace HZ:=zA HZ o9
       have HZ0:=HZ
       have HSZ:=Lib.hid HZ.out
       replace HX:=bA HX o9
       replace HB_k:=bA HB_k o9
       replace HO_r:=oA HO_r o9
       replace HS:=Lib.hid (HS.out.below (bl _ o9))
       replace HT:=tA HT o9
       replace HZ:=zA HZ o9
       subst ho9
       have LIE:=lN2 w26 x_k
       have BD1 : Hid ((xs_r).length ≤ 1000000):=by have:=HL.out;show _ ≤ _;omega
       have BD2 : Hid ([x_k].length ≤ 1000000):=by show _ ≤ _;simp
       go_wp2_with (at_builtin;refine wpList_joinNd rfl _ _ rfl (w.heap.size + 1) _ _ rfl HO_r.out (some ⟨w26.heap.size + 1,0,none⟩) [x_k] 1 rfl LIE.out BD1.out BD2.out HZ.out ?_;intro A28 n29 c30 w31 hown hgr hpl;have HOWN:=Lib.hid hown;have HGR:=Lib.hid hgr;have HPL:=Lib.hid hpl;clear hown hgr hpl)
       replace HX:=Lib.hid (HX.out.grown HGR.out (row_nw HO_r.out))
       replace HZ:=Lib.hid (Nat.lt_of_lt_of_le HZ.out HGR.out.size)
       replace HT:=Lib.hid (HT.out.grown HGR.out (fun k e => .inr (row_ge HO_r.out k e)))
       have hs9 : RBad _ _ _ _:=RAt.grown (r:=.no _ _) HS.out HE.out HQ.out HGR.out (row_ge HO_r.out)
       replace HS:=Lib.hid hs9
       replace HO_r:=HOWN
       clear hs9 LIE HGR HPL HOWN
       have NS:=Lib.hid (sr_ne (w:=w) (v:=.slice A28 n29 c30) HQ.out)
       go_roundw
       case rel => exact ⟨i + 1,by go_num,by omega,HT.out,HZ.out,HX.out,_,_,_,_,rfl,HO_r.out,by have:=HL.out;simp;omega,.inr ⟨_,_,HR.out,HS.out⟩⟩
       case measure => simp [intOf];omega
    ·rw [show m - i = 0 by omega] at hr
     have HR : Hid (rr = (wantP E.L E.e ⟨#[41]⟩ s1).bind fun _ s => (wantP E.L E.e ⟨#[59]⟩ s).bind fun _ s => .ok (.mk k ⟨#[]⟩ 0 ls_r) ⟨s.i,s.dep,s.many + 1⟩):=hr
     clear hr
     go_wp2_with fail
     refine (rwant_two HS.out _).mono ?_
     rintro e w32 ⟨rfl,ht9,(⟨m9,s33,hr9,hs9⟩ | ⟨c9,p9,hr9,hs9⟩)⟩
     ·replace HR:=Lib.hid (HR.out.trans (bind_ok hr9))
      clear hr9
      replace HX:=bT HX ht9 NE
      replace HA_r:=Lib.hid (HA_r.out.turned ht9 (sr_ne HQ.out))
      replace HO_r:=Lib.hid (HO_r.out.turned ht9 (row_ne HO_r.out HQ.out))
      replace HZ:=zT HZ ht9
      replace HT:=tT HT ht9
      replace HS:=Lib.hid hs9
      clear ht9 hs9
      go_wp2_with fail
      refine (rwant_two HS.out _).mono ?_
      rintro e w34 ⟨rfl,ht9,(⟨m9,s35,hr9,hs9⟩ | ⟨c9,p9,hr9,hs9⟩)⟩
      ·replace HR:=Lib.hid (HR.out.trans (bind_ok hr9))
       clear hr9
       replace HX:=bT HX ht9 NE
       replace HA_r:=Lib.hid (HA_r.out.turned ht9 (sr_ne HQ.out))
       replace HO_r:=Lib.hid (HO_r.out.turned ht9 (row_ne HO_r.out HQ.out))
       replace HZ:=zT HZ ht9
       replace HT:=tT HT ht9
       replace HS:=Lib.hid hs9
       clear ht9 hs9
       go_wp2_with fail
       obtain ⟨A9,c9,e9,-,hn9⟩:=HO_r.out.nodes (S':=(fun b => w.heap.size < b)) HA_r.out (fun b h => h.1) (row_gt HO_r.out)
       cases e9
       have KN:=Lib.hid hn9
       clear hn9
       refine (rnode_any (r:=.ok nd0 _) k _ _ _ _ HS.out).mono ?_
       rintro e w36 ⟨rfl,ht9,hs9⟩
       have hs9 : RGood _ _ _:=hs9 nd0
       replace KN:=Lib.hid (KN.out.kept ht9.size (fun b hb hs => ht9.block b hb (fun e => absurd hs (by have:=HQ.out;omega))) (fun b _ h => h))
       replace HX:=bT HX ht9 NE
       replace HA_r:=Lib.hid (HA_r.out.turned ht9 (sr_ne HQ.out))
       replace HO_r:=Lib.hid (HO_r.out.turned ht9 (row_ne HO_r.out HQ.out))
       replace HZ:=zT HZ ht9
       replace HT:=tT HT ht9
       replace HS:=Lib.hid hs9
       clear ht9 hs9
       obtain ⟨u0X,u1X,u2X,u3X,g0X,g1X,g2X,g3X,glX⟩:=HX.out.f4
       go_wp2_with fail
       clear u0X u1X u2X u3X g0X g1X g2X g3X glX
       refine open_post (EndG w E _ ⟨k,⟨#[]⟩,0,A_r,(ls_r).length,c_r⟩ (.mk k ⟨#[]⟩ 0 ls_r)) (end_good HE.out HQ.out HT.out HS.out HX.out (x:=⟨k,⟨#[]⟩,0,A_r,(ls_r).length,c_r⟩) (n:=(.mk k ⟨#[]⟩ 0 ls_r)) ⟨⟨rfl,rfl,rfl,rfl⟩,KN.out⟩ (S:=(fun b => w.heap.size < b)) (fun b h => h)) ?_
       rintro W hE
       obtain ⟨v0,v1,v2,v3,-⟩:=hE.blk.f4
       exact bodyPost_ret (v:=nvA ⟨k,⟨#[]⟩,0,A_r,(ls_r).length,c_r⟩) (by simp [results,Tryz.results114,go_sem,v0,v1,v2,v3]) rfl (hE.done HR.out)
      ·replace HR:=Lib.hid (HR.out.trans (bind_no hr9))
       clear hr9
       replace HX:=bT HX ht9 NE
       replace HO_r:=Lib.hid (HO_r.out.turned ht9 (row_ne HO_r.out HQ.out))
       replace HZ:=zT HZ ht9
       replace HT:=tT HT ht9
       replace HS:=Lib.hid hs9
       clear ht9 hs9
       go_wp2_with fail
       refine (rnode_bad HS.out k _ _ _ _).mono ?_
       rintro e w37 ⟨rfl,ht9,hs9⟩
       replace HX:=bT HX ht9 NE
       replace HO_r:=Lib.hid (HO_r.out.turned ht9 (row_ne HO_r.out HQ.out))
       replace HZ:=zT HZ ht9
       replace HT:=tT HT ht9
       replace HS:=Lib.hid hs9
       clear ht9 hs9
       obtain ⟨u0X,u1X,u2X,u3X,g0X,g1X,g2X,g3X,glX⟩:=HX.out.f4
       go_wp2_with fail
       clear u0X u1X u2X u3X g0X g1X g2X g3X glX
       refine open_post (EndB w E _ _ _) (end_bad HE.out HQ.out HT.out HS.out HX.out (x:=⟨_,_,_,_,_,_⟩)) ?_
       rintro W hE
       obtain ⟨v0,v1,v2,v3,-⟩:=hE.blk.f4
       exact bodyPost_ret (v:=nvA ⟨_,_,_,_,_,_⟩) (by simp [results,Tryz.results114,go_sem,v0,v1,v2,v3]) rfl (hE.done HR.out)
     ·replace HR:=Lib.hid (HR.out.trans (bind_no hr9))
      clear hr9
      replace HX:=bT HX ht9 NE
      replace HO_r:=Lib.hid (HO_r.out.turned ht9 (row_ne HO_r.out HQ.out))
      replace HZ:=zT HZ ht9
      replace HT:=tT HT ht9
      replace HS:=Lib.hid hs9
      clear ht9 hs9
      go_wp2_with fail
      refine (rwant_bad HS.out _).mono ?_
      rintro e w38 ⟨rfl,ht9,hs9⟩
      replace HX:=bT HX ht9 NE
      replace HO_r:=Lib.hid (HO_r.out.turned ht9 (row_ne HO_r.out HQ.out))
      replace HZ:=zT HZ ht9
      replace HT:=tT HT ht9
      replace HS:=Lib.hid hs9
      clear ht9 hs9
      go_wp2_with fail
      refine (rnode_bad HS.out k _ _ _ _).mono ?_
      rintro e w39 ⟨rfl,ht9,hs9⟩
      replace HX:=bT HX ht9 NE
      replace HO_r:=Lib.hid (HO_r.out.turned ht9 (row_ne HO_r.out HQ.out))
      replace HZ:=zT HZ ht9
      replace HT:=tT HT ht9
      replace HS:=Lib.hid hs9
      clear ht9 hs9
      obtain ⟨u0X,u1X,u2X,u3X,g0X,g1X,g2X,g3X,glX⟩:=HX.out.f4
      go_wp2_with fail
      clear u0X u1X u2X u3X g0X g1X g2X g3X glX
      refine open_post (EndB w E _ _ _) (end_bad HE.out HQ.out HT.out HS.out HX.out (x:=⟨_,_,_,_,_,_⟩)) ?_
      rintro W hE
      obtain ⟨v0,v1,v2,v3,-⟩:=hE.blk.f4
      exact bodyPost_ret (v:=nvA ⟨_,_,_,_,_,_⟩) (by simp [results,Tryz.results114,go_sem,v0,v1,v2,v3]) rfl (hE.done HR.out)
   ·have HS:=Lib.hid hs
    have HR:=Lib.hid hr
    clear hs hr
    by_cases him : i < m
    ·by_cases hi0 : (0 : Int) < (i : Int)
     ·skip
      go_wp2_with fail
      refine (rwant_bad HS.out _).mono ?_
      rintro e w40 ⟨rfl,ht9,hs9⟩
      replace HX:=bT HX ht9 NE
      replace HO_r:=Lib.hid (HO_r.out.turned ht9 (row_ne HO_r.out HQ.out))
      replace HZ:=zT HZ ht9
      replace HT:=tT HT ht9
      replace HS:=Lib.hid hs9
      clear ht9 hs9
      go_wp2_with fail
      refine ((bdX E _ _ _) HS.out).mono ?_
      rintro e w41 ⟨x_k,rfl,ht9,hs9,-⟩
      have hs9 : RBad _ _ _ _:=hs9
      replace HX:=bT HX ht9 NE
      replace HO_r:=Lib.hid (HO_r.out.turned ht9 (row_ne HO_r.out HQ.out))
      replace HZ:=zT HZ ht9
      replace HT:=tT HT ht9
      replace HS:=Lib.hid hs9
      clear ht9 hs9
      have NE_k:=nE HQ HZ
      have HB_k:=nB w41 x_k
      obtain ⟨o9,ho9⟩:=oN x_k
      replace HX:=bA HX o9
      replace HO_r:=oA HO_r o9
      replace HS:=Lib.hid (HS.out.below (bl _ o9))
      replace HT:=tA HT o9
      replace HZ:=zA HZ o9
      have HZ0:=HZ
      have HSZ:=Lib.hid HZ.out
      replace HX:=bA HX o9
      replace HB_k:=bA HB_k o9
      replace HO_r:=oA HO_r o9
      replace HS:=Lib.hid (HS.out.below (bl _ o9))
      replace HT:=tA HT o9
      replace HZ:=zA HZ o9
      subst ho9
      have LIE:=lN2 w41 x_k
      have BD1 : Hid ((xs_r).length ≤ 1000000):=by have:=HL.out;show _ ≤ _;omega
      have BD2 : Hid ([x_k].length ≤ 1000000):=by show _ ≤ _;simp
      go_wp2_with (at_builtin;refine wpList_joinNd rfl _ _ rfl (w.heap.size + 1) _ _ rfl HO_r.out (some ⟨w41.heap.size + 1,0,none⟩) [x_k] 1 rfl LIE.out BD1.out BD2.out HZ.out ?_;intro A43 n44 c45 w46 hown hgr hpl;have HOWN:=Lib.hid hown;have HGR:=Lib.hid hgr;have HPL:=Lib.hid hpl;clear hown hgr hpl)
      replace HX:=Lib.hid (HX.out.grown HGR.out (row_nw HO_r.out))
      replace HZ:=Lib.hid (Nat.lt_of_lt_of_le HZ.out HGR.out.size)
      replace HT:=Lib.hid (HT.out.grown HGR.out (fun k e => .inr (row_ge HO_r.out k e)))
      have hs9 : RBad _ _ _ _:=RAt.grown (r:=.no _ _) HS.out HE.out HQ.out HGR.out (row_ge HO_r.out)
      replace HS:=Lib.hid hs9
      replace HO_r:=HOWN
      clear hs9 LIE HGR HPL HOWN
      have NS:=Lib.hid (sr_ne (w:=w) (v:=.slice A43 n44 c45) HQ.out)
      go_roundw
      case rel => exact ⟨i + 1,by go_num,by omega,HT.out,HZ.out,HX.out,_,_,_,_,rfl,HO_r.out,by have:=HL.out;simp;omega,.inr ⟨_,_,HR.out,HS.out⟩⟩
      case measure => simp [intOf];omega
     ·skip
      go_wp2_with fail
      refine ((bdX E _ _ _) HS.out).mono ?_
      rintro e w47 ⟨x_k,rfl,ht9,hs9,-⟩
      have hs9 : RBad _ _ _ _:=hs9
      replace HX:=bT HX ht9 NE
      replace HO_r:=Lib.hid (HO_r.out.turned ht9 (row_ne HO_r.out HQ.out))
      replace HZ:=zT HZ ht9
      replace HT:=tT HT ht9
      replace HS:=Lib.hid hs9
      clear ht9 hs9
      have NE_k:=nE HQ HZ
      have HB_k:=nB w47 x_k
      obtain ⟨o9,ho9⟩:=oN x_k
      replace HX:=bA HX o9
      replace HO_r:=oA HO_r o9
      replace HS:=Lib.hid (HS.out.below (bl _ o9))
      replace HT:=tA HT o9
      replace HZ:=zA HZ o9
      have HZ0:=HZ
      have HSZ:=Lib.hid HZ.out
      replace HX:=bA HX o9
      replace HB_k:=bA HB_k o9
      replace HO_r:=oA HO_r o9
      replace HS:=Lib.hid (HS.out.below (bl _ o9))
      replace HT:=tA HT o9
      replace HZ:=zA HZ o9
      subst ho9
      have LIE:=lN2 w47 x_k
      have BD1 : Hid ((xs_r).length ≤ 1000000):=by have:=HL.out;show _ ≤ _;omega
      have BD2 : Hid ([x_k].length ≤ 1000000):=by show _ ≤ _;simp
      go_wp2_with (at_builtin;refine wpList_joinNd rfl _ _ rfl (w.heap.size + 1) _ _ rfl HO_r.out (some ⟨w47.heap.size + 1,0,none⟩) [x_k] 1 rfl LIE.out BD1.out BD2.out HZ.out ?_;intro A49 n50 c51 w52 hown hgr hpl;have HOWN:=Lib.hid hown;have HGR:=Lib.hid hgr;have HPL:=Lib.hid hpl;clear hown hgr hpl)
      replace HX:=Lib.hid (HX.out.grown HGR.out (row_nw HO_r.out))
      replace HZ:=Lib.hid (Nat.lt_of_lt_of_le HZ.out HGR.out.size)
      replace HT:=Lib.hid (HT.out.grown HGR.out (fun k e => .inr (row_ge HO_r.out k e)))
      have hs9 : RBad _ _ _ _:=RAt.grown (r:=.no _ _) HS.out HE.out HQ.out HGR.out (row_ge HO_r.out)
      replace HS:=Lib.hid hs9
      replace HO_r:=HOWN
      clear hs9 LIE HGR HPL HOWN
      have NS:=Lib.hid (sr_ne (w:=w) (v:=.slice A49 n50 c51) HQ.out)
      go_roundw
      case rel => exact ⟨i + 1,by go_num,by omega,HT.out,HZ.out,HX.out,_,_,_,_,rfl,HO_r.out,by have:=HL.out;simp;omega,.inr ⟨_,_,HR.out,HS.out⟩⟩
      case measure => simp [intOf];omega
    ·skip
     go_wp2_with fail
     refine (rwant_bad HS.out _).mono ?_
     rintro e w53 ⟨rfl,ht9,hs9⟩
     replace HX:=bT HX ht9 NE
     replace HO_r:=Lib.hid (HO_r.out.turned ht9 (row_ne HO_r.out HQ.out))
     replace HZ:=zT HZ ht9
     replace HT:=tT HT ht9
     replace HS:=Lib.hid hs9
     clear ht9 hs9
     go_wp2_with fail
     refine (rwant_bad HS.out _).mono ?_
     rintro e w54 ⟨rfl,ht9,hs9⟩
     replace HX:=bT HX ht9 NE
     replace HO_r:=Lib.hid (HO_r.out.turned ht9 (row_ne HO_r.out HQ.out))
     replace HZ:=zT HZ ht9
     replace HT:=tT HT ht9
     replace HS:=Lib.hid hs9
     clear ht9 hs9
     go_wp2_with fail
     refine (rnode_bad HS.out k _ _ _ _).mono ?_
     rintro e w55 ⟨rfl,ht9,hs9⟩
     replace HX:=bT HX ht9 NE
     replace HO_r:=Lib.hid (HO_r.out.turned ht9 (row_ne HO_r.out HQ.out))
     replace HZ:=zT HZ ht9
     replace HT:=tT HT ht9
     replace HS:=Lib.hid hs9
     clear ht9 hs9
     obtain ⟨u0X,u1X,u2X,u3X,g0X,g1X,g2X,g3X,glX⟩:=HX.out.f4
     go_wp2_with fail
     clear u0X u1X u2X u3X g0X g1X g2X g3X glX
     refine open_post (EndB w E _ _ _) (end_bad HE.out HQ.out HT.out HS.out HX.out (x:=⟨_,_,_,_,_,_⟩)) ?_
     rintro W hE
     obtain ⟨v0,v1,v2,v3,-⟩:=hE.blk.f4
     exact bodyPost_ret (v:=nvA ⟨_,_,_,_,_,_⟩) (by simp [results,Tryz.results114,go_sem,v0,v1,v2,v3]) rfl (hE.done HR.out)
 ·replace HR:=Lib.hid (HR.out.trans (bind_no hr9))
  clear hr9
  replace HX:=bT HX ht9 NE
  replace HO_r:=Lib.hid (HO_r.out.turned ht9 (row_ne HO_r.out HQ.out))
  replace HZ:=zT HZ ht9
  replace HT:=tT HT ht9
  replace HS:=Lib.hid hs9
  clear ht9 hs9
  go_wp2_with fail
  go_loopw [7,8] (fun v u wr => ∃ j : Nat,u = .int .i64 (j : Int) ∧ j ≤ m ∧ SInv w E rr f k m j v wr) (fun _ u _ => m - (intOf u).toNat)
  case atStart => exact ⟨0,rfl,Nat.zero_le _,HT.out,HZ.out,HX.out,_,_,_,_,rfl,HO_r.out,Nat.le_refl _,.inr ⟨_,_,HR.out,HS.out⟩⟩
  case round =>
   clear HT HZ HX HO_r HR HS
   obtain ⟨i,rfl,hi,ht,hz,hx,A_r,n_r,c_r,xs_r,rfl,ho,hl,hg⟩:=hrel
   have HT:=Lib.hid ht
   have HZ:=Lib.hid hz
   have HX:=Lib.hid hx
   have HO_r:=Lib.hid ho
   have HL:=Lib.hid hl
   clear ht hz hx ho hl
   have hwi : IntKind.i64.wrap ((i : Int) + 1) = (i : Int) + 1:=IntWalk.i64_in _ (by omega)
   rcases hg with ⟨ls_r,s1,hr,hs,ha⟩ | ⟨c1,p1,hr,hs⟩
   ·have HS:=Lib.hid hs
    have HA_r:=Lib.hid ha
    have NS:=Lib.hid (sr_ne (w:=w) (v:=.slice A_r n_r c_r) HQ.out)
    clear hs ha
    by_cases him : i < m
    ·rw [show m - i = (m - (i + 1)) + 1 by omega] at hr
     by_cases hi0 : i = 0
     ·rw [decide_eq_true hi0] at hr
      have HR : Hid (rr = (run E.L E.e f .expr s1).bind fun n s => someL E.L E.e f k (m - (i + 1)) false (ls_r ++ [n]) s):=hr
      have hi1 : ¬ (0 : Int) < (i : Int):=by omega
      clear hr hi0
      go_wp2_with fail
      refine ((ihX E) _ _ HS.out (fun h => HO.out (HR.out.trans (bind_out h)))).mono ?_
      rintro e w56 hq9
      rcases hq9.two (fun h => HO.out (HR.out.trans (bind_out h))) with ⟨n_k,s57,x_k,hr9,rfl,ht9,hs9,hi9⟩ | ⟨c9,p9,x_k,hr9,rfl,ht9,hs9⟩
      ·replace HR:=Lib.hid (HR.out.trans (bind_ok hr9))
       clear hr9 hq9
       have T_k:=Lib.hid (hi9.weak (S':=(SR w (.slice A_r n_r c_r))) (fun b hb h => ⟨Nat.lt_of_lt_of_le HZ.out h,fun e => Nat.lt_irrefl _ (Nat.lt_of_lt_of_le (HO_r.out.lt _ e).2 h)⟩))
       clear hi9
       replace HX:=bT HX ht9 NE
       replace HA_r:=Lib.hid (HA_r.out.turned ht9 (sr_ne HQ.out))
       replace HO_r:=Lib.hid (HO_r.out.turned ht9 (row_ne HO_r.out HQ.out))
       replace HZ:=zT HZ ht9
       replace HT:=tT HT ht9
       replace HS:=Lib.hid hs9
       clear ht9 hs9
       have NE_k:=nE HQ HZ
       have HB_k:=nB w56 x_k
       obtain ⟨o9,ho9⟩:=oN x_k
       replace HX:=bA HX o9
       replace T_k:=nA T_k o9
       replace HA_r:=Lib.hid (HA_r.out.alloc o9)
       replace HO_r:=oA HO_r o9
       replace HS:=Lib.hid (HS.out.below (bl _ o9))
       replace HT:=tA HT o9
       replace HZ:=zA HZ o9
       have HZ0:=HZ
       have HSZ:=Lib.hid HZ.out
       replace HX:=bA HX o9
       replace HB_k:=bA HB_k o9
       replace T_k:=nA T_k o9
       replace HA_r:=Lib.hid (HA_r.out.alloc o9)
       replace HO_r:=oA HO_r o9
       replace HS:=Lib.hid (HS.out.below (bl _ o9))
       replace HT:=tA HT o9
       replace HZ:=zA HZ o9
       subst ho9
       have LIE:=lN2 w56 x_k
       have BD1 : Hid ((xs_r).length ≤ 1000000):=by have:=HL.out;show _ ≤ _;omega
       have BD2 : Hid ([x_k].length ≤ 1000000):=by show _ ≤ _;simp
       go_wp2_with (at_builtin;refine wpList_joinNd rfl _ _ rfl (w.heap.size + 1) _ _ rfl HO_r.out (some ⟨w56.heap.size + 1,0,none⟩) [x_k] 1 rfl LIE.out BD1.out BD2.out HZ.out ?_;intro A58 n59 c60 w61 hown hgr hpl;have HOWN:=Lib.hid hown;have HGR:=Lib.hid hgr;have HPL:=Lib.hid hpl;clear hown hgr hpl)
       replace HX:=Lib.hid (HX.out.grown HGR.out (row_nw HO_r.out))
       replace HZ:=Lib.hid (Nat.lt_of_lt_of_le HZ.out HGR.out.size)
       replace HT:=Lib.hid (HT.out.grown HGR.out (fun k e => .inr (row_ge HO_r.out k e)))
       have hs9 : RGood _ _ _:=RAt.grown (r:=.ok nd0 _) HS.out HE.out HQ.out HGR.out (row_ge HO_r.out)
       replace HA_r:=Lib.hid (HA_r.out.pushed T_k.out HO_r.out HGR.out HPL.out)
       replace HS:=Lib.hid hs9
       replace HO_r:=HOWN
       clear hs9 LIE HGR HPL HOWN
       have NS:=Lib.hid (sr_ne (w:=w) (v:=.slice A58 n59 c60) HQ.out)
       have HRJ : Hid (rr = someL E.L E.e f k (m - (i + 1)) (decide (i + 1 = 0)) _ _):=HR.out
       go_roundw
       case rel => exact ⟨i + 1,by go_num,by omega,HT.out,HZ.out,HX.out,_,_,_,_,rfl,HO_r.out,by have:=HL.out;simp;omega,.inl ⟨_,_,HRJ.out,HS.out,HA_r.out⟩⟩
       case measure => simp [intOf];omega
      ·replace HR:=Lib.hid (HR.out.trans (bind_no hr9))
       clear hr9 hq9
       replace HX:=bT HX ht9 NE
       replace HO_r:=Lib.hid (HO_r.out.turned ht9 (row_ne HO_r.out HQ.out))
       replace HZ:=zT HZ ht9
       replace HT:=tT HT ht9
       replace HS:=Lib.hid hs9
       clear ht9 hs9
       have NE_k:=nE HQ HZ
       have HB_k:=nB w56 x_k
       obtain ⟨o9,ho9⟩:=oN x_k
       replace HX:=bA HX o9
       replace HO_r:=oA HO_r o9
       replace HS:=Lib.hid (HS.out.below (bl _ o9))
       replace HT:=tA HT o9
       replace HZ:=zA HZ o9
       have HZ0:=HZ
       have HSZ:=Lib.hid HZ.out
       replace HX:=bA HX o9
       replace HB_k:=bA HB_k o9
       replace HO_r:=oA HO_r o9
       replace HS:=Lib.hid (HS.out.below (bl _ o9))
       replace HT:=tA HT o9
       replace HZ:=zA HZ o9
       subst ho9
       have LIE:=lN2 w56 x_k
       have BD1 : Hid ((xs_r).length ≤ 1000000):=by have:=HL.out;show _ ≤ _;omega
       have BD2 : Hid ([x_k].length ≤ 1000000):=by show _ ≤ _;simp
       go_wp2_with (at_builtin;refine wpList_joinNd rfl _ _ rfl (w.heap.size + 1) _ _ rfl HO_r.out (some ⟨w56.heap.size + 1,0,none⟩) [x_k] 1 rfl LIE.out BD1.out BD2.out HZ.out ?_;intro A62 n63 c64 w65 hown hgr hpl;have HOWN:=Lib.hid hown;have HGR:=Lib.hid hgr;have HPL:=Lib.hid hpl;clear hown hgr hpl)
       replace HX:=Lib.hid (HX.out.grown HGR.out (row_nw HO_r.out))
       replace HZ:=Lib.hid (Nat.lt_of_lt_of_le HZ.out HGR.out.size)
       replace HT:=Lib.hid (HT.out.grown HGR.out (fun k e => .inr (row_ge HO_r.out k e)))
       have hs9 : RBad _ _ _ _:=RAt.grown (r:=.no _ _) HS.out HE.out HQ.out HGR.out (row_ge HO_r.out)
       replace HS:=Lib.hid hs9
       replace HO_r:=HOWN
       clear hs9 LIE HGR HPL HOWN
       have NS:=Lib.hid (sr_ne (w:=w) (v:=.slice A62 n63 c64) HQ.out)
       go_roundw
       case rel => exact ⟨i + 1,by go_num,by omega,HT.out,HZ.out,HX.out,_,_,_,_,rfl,HO_r.out,by have:=HL.out;simp;omega,.inr ⟨_,_,HR.out,HS.out⟩⟩
       case measure => simp [intOf];omega
     ·rw [decide_eq_false hi0] at hr
      have HR : Hid (rr = (wantP E.L E.e ⟨#[44]⟩ s1).bind fun _ s => (run E.L E.e f .expr s).bind fun n s => someL E.L E.e f k (m - (i + 1)) false (ls_r ++ [n]) s):=hr
      have hi1 : (0 : Int) < (i : Int):=by omega
      clear hr hi0
      go_wp2_with fail
      refine (rwant_two HS.out _).mono ?_
      rintro e w66 ⟨rfl,ht9,(⟨m9,s67,hr9,hs9⟩ | ⟨c9,p9,hr9,hs9⟩)⟩
      ·replace HR:=Lib.hid (HR.out.trans (bind_ok hr9))
       clear hr9
       replace HX:=bT HX ht9 NE
       replace HA_r:=Lib.hid (HA_r.out.turned ht9 (sr_ne HQ.out))
       replace HO_r:=Lib.hid (HO_r.out.turned ht9 (row_ne HO_r.out HQ.out))
       replace HZ:=zT HZ ht9
       replace HT:=tT HT ht9
       replace HS:=Lib.hid hs9
       clear ht9 hs9
       go_wp2_with fail
       refine ((ihX E) _ _ HS.out (fun h => HO.out (HR.out.trans (bind_out h)))).mono ?_
       rintro e w68 hq9
       rcases hq9.two (fun h => HO.out (HR.out.trans (bind_out h))) with ⟨n_k,s69,x_k,hr9,rfl,ht9,hs9,hi9⟩ | ⟨c9,p9,x_k,hr9,rfl,ht9,hs9⟩
       ·replace HR:=Lib.hid (HR.out.trans (bind_ok hr9))
        clear hr9 hq9
        have T_k:=Lib.hid (hi9.weak (S':=(SR w (.slice A_r n_r c_r))) (fun b hb h => ⟨Nat.lt_of_lt_of_le HZ.out h,fun e => Nat.lt_irrefl _ (Nat.lt_of_lt_of_le (HO_r.out.lt _ e).2 h)⟩))
        clear hi9
        replace HX:=bT HX ht9 NE
        replace HA_r:=Lib.hid (HA_r.out.turned ht9 (sr_ne HQ.out))
        replace HO_r:=Lib.hid (HO_r.out.turned ht9 (row_ne HO_r.out HQ.out))
        replace HZ:=zT HZ ht9
        replace HT:=tT HT ht9
        replace HS:=Lib.hid hs9
        clear ht9 hs9
        have NE_k:=nE HQ HZ
        have HB_k:=nB w68 x_k
        obtain ⟨o9,ho9⟩:=oN x_k
        replace HX:=bA HX o9
        replace T_k:=nA T_k o9
        replace HA_r:=Lib.hid (HA_r.out.alloc o9)
        replace HO_r:=oA HO_r o9
        replace HS:=Lib.hid (HS.out.below (bl _ o9))
        replace HT:=tA HT o9
        replace HZ:=zA HZ o9
        have HZ0:=HZ
        have HSZ:=Lib.hid HZ.out
        replace HX:=bA HX o9
        replace HB_k:=bA HB_k o9
        replace T_k:=nA T_k o9
        replace HA_r:=Lib.hid (HA_r.out.alloc o9)
        replace HO_r:=oA HO_r o9
        replace HS:=Lib.hid (HS.out.below (bl _ o9))
        replace HT:=tA HT o9
        replace HZ:=zA HZ o9
        subst ho9
        have LIE:=lN2 w68 x_k
        have BD1 : Hid ((xs_r).length ≤ 1000000):=by have:=HL.out;show _ ≤ _;omega
        have BD2 : Hid ([x_k].length ≤ 1000000):=by show _ ≤ _;simp
        go_wp2_with (at_builtin;refine wpList_joinNd rfl _ _ rfl (w.heap.size + 1) _ _ rfl HO_r.out (some ⟨w68.heap.size + 1,0,none⟩) [x_k] 1 rfl LIE.out BD1.out BD2.out HZ.out ?_;intro A70 n71 c72 w73 hown hgr hpl;have HOWN:=Lib.hid hown;have HGR:=Lib.hid hgr;have HPL:=Lib.hid hpl;clear hown hgr hpl)
        replace HX:=Lib.hid (HX.out.grown HGR.out (row_nw HO_r.out))
        replace HZ:=Lib.hid (Nat.lt_of_lt_of_le HZ.out HGR.out.size)
        replace HT:=Lib.hid (HT.out.grown HGR.out (fun k e => .inr (row_ge HO_r.out k e)))
        have hs9 : RGood _ _ _:=RAt.grown (r:=.ok nd0 _) HS.out HE.out HQ.out HGR.out (row_ge HO_r.out)
        replace HA_r:=Lib.hid (HA_r.out.pushed T_k.out HO_r.out HGR.out HPL.out)
        replace HS:=Lib.hid hs9
        replace HO_r:=HOWN
        clear hs9 LIE HGR HPL HOWN
        have NS:=Lib.hid (sr_ne (w:=w) (v:=.slice A70 n71 c72) HQ.out)
        have HRJ : Hid (rr = someL E.L E.e f k (m - (i + 1)) (decide (i + 1 = 0)) _ _):=HR.out
        go_roundw
        case rel => exact ⟨i + 1,by go_num,by omega,HT.out,HZ.out,HX.out,_,_,_,_,rfl,HO_r.out,by have:=HL.out;simp;omega,.inl ⟨_,_,HRJ.out,HS.out,HA_r.out⟩⟩
        case measure => simp [intOf];omega
       ·replace HR:=Lib.hid (HR.out.trans (bind_no hr9))
        clear hr9 hq9
        replace HX:=bT HX ht9 NE
        replace HO_r:=Lib.hid (HO_r.out.turned ht9 (row_ne HO_r.out HQ.out))
        replace HZ:=zT HZ ht9
        replace HT:=tT HT ht9
        replace HS:=Lib.hid hs9
        clear ht9 hs9
        have NE_k:=nE HQ HZ
        have HB_k:=nB w68 x_k
        obtain ⟨o9,ho9⟩:=oN x_k
        replace HX:=bA HX o9
        replace HO_r:=oA HO_r o9
        replace HS:=Lib.hid (HS.out.below (bl _ o9))
        replace HT:=tA HT o9
        replace HZ:=zA HZ o9
        have HZ0:=HZ
        have HSZ:=Lib.hid HZ.out
        replace HX:=bA HX o9
        replace HB_k:=bA HB_k o9
        replace HO_r:=oA HO_r o9
        replace HS:=Lib.hid (HS.out.below (bl _ o9))
        replace HT:=tA HT o9
        replace HZ:=zA HZ o9
        subst ho9
        have LIE:=lN2 w68 x_k
        have BD1 : Hid ((xs_r).length ≤ 1000000):=by have:=HL.out;show _ ≤ _;omega
        have BD2 : Hid ([x_k].length ≤ 1000000):=by show _ ≤ _;simp
        go_wp2_with (at_builtin;refine wpList_joinNd rfl _ _ rfl (w.heap.size + 1) _ _ rfl HO_r.out (some ⟨w68.heap.size + 1,0,none⟩) [x_k] 1 rfl LIE.out BD1.out BD2.out HZ.out ?_;intro A74 n75 c76 w77 hown hgr hpl;have HOWN:=Lib.hid hown;have HGR:=Lib.hid hgr;have HPL:=Lib.hid hpl;clear hown hgr hpl)
        replace HX:=Lib.hid (HX.out.grown HGR.out (row_nw HO_r.out))
        replace HZ:=Lib.hid (Nat.lt_of_lt_of_le HZ.out HGR.out.size)
        replace HT:=Lib.hid (HT.out.grown HGR.out (fun k e => .inr (row_ge HO_r.out k e)))
        have hs9 : RBad _ _ _ _:=RAt.grown (r:=.no _ _) HS.out HE.out HQ.out HGR.out (row_ge HO_r.out)
        replace HS:=Lib.hid hs9
        replace HO_r:=HOWN
        clear hs9 LIE HGR HPL HOWN
        have NS:=Lib.hid (sr_ne (w:=w) (v:=.slice A74 n75 c76) HQ.out)
        go_roundw
        case rel => exact ⟨i + 1,by go_num,by omega,HT.out,HZ.out,HX.out,_,_,_,_,rfl,HO_r.out,by have:=HL.out;simp;omega,.inr ⟨_,_,HR.out,HS.out⟩⟩
        case measure => simp [intOf];omega
      ·replace HR:=Lib.hid (HR.out.trans (bind_no hr9))
       clear hr9
       replace HX:=bT HX ht9 NE
       replace HO_r:=Lib.hid (HO_r.out.turned ht9 (row_ne HO_r.out HQ.out))
       replace HZ:=zT HZ ht9
       replace HT:=tT HT ht9
       replace HS:=Lib.hid hs9
       clear ht9 hs9
       go_wp2_with fail
       refine ((bdX E _ _ _) HS.out).mono ?_
       rintro e w78 ⟨x_k,rfl,ht9,hs9,-⟩
       have hs9 : RBad _ _ _ _:=hs9
       replace HX:=bT HX ht9 NE
       replace HO_r:=Lib.hid (HO_r.out.turned ht9 (row_ne HO_r.out HQ.out))
       replace HZ:=zT HZ ht9
       replace HT:=tT HT ht9
       replace HS:=Lib.hid hs9
       clear ht9 hs9
       have NE_k:=nE HQ HZ
       have HB_k:=nB w78 x_k
       obtain ⟨o9,ho9⟩:=oN x_k
       replace HX:=bA HX o9
       replace HO_r:=oA HO_r o9
       replace HS:=Lib.hid (HS.out.below (bl _ o9))
       replace HT:=tA HT o9
       replace HZ:=zA HZ o9
       have HZ0:=HZ
       have HSZ:=Lib.hid HZ.out
       replace HX:=bA HX o9
       replace HB_k:=bA HB_k o9
       replace HO_r:=oA HO_r o9
       replace HS:=Lib.hid (HS.out.below (bl _ o9))
       replace HT:=tA HT o9
       replace HZ:=zA HZ o9
       subst ho9
       have LIE:=lN2 w78 x_k
       have BD1 : Hid ((xs_r).length ≤ 1000000):=by have:=HL.out;show _ ≤ _;omega
       have BD2 : Hid ([x_k].length ≤ 1000000):=by show _ ≤ _;simp
       go_wp2_with (at_builtin;refine wpList_joinNd rfl _ _ rfl (w.heap.size + 1) _ _ rfl HO_r.out (some ⟨w78.heap.size + 1,0,none⟩) [x_k] 1 rfl LIE.out BD1.out BD2.out HZ.out ?_;intro A80 n81 c82 w83 hown hgr hpl;have HOWN:=Lib.hid hown;have HGR:=Lib.hid hgr;have HPL:=Lib.hid hpl;clear hown hgr hpl)
       replace HX:=Lib.hid (HX.out.grown HGR.out (row_nw HO_r.out))
       replace HZ:=Lib.hid (Nat.lt_of_lt_of_le HZ.out HGR.out.size)
       replace HT:=Lib.hid (HT.out.grown HGR.out (fun k e => .inr (row_ge HO_r.out k e)))
       have hs9 : RBad _ _ _ _:=RAt.grown (r:=.no _ _) HS.out HE.out HQ.out HGR.out (row_ge HO_r.out)
       replace HS:=Lib.hid hs9
       replace HO_r:=HOWN
       clear hs9 LIE HGR HPL HOWN
       have NS:=Lib.hid (sr_ne (w:=w) (v:=.slice A80 n81 c82) HQ.out)
       go_roundw
       case rel => exact ⟨i + 1,by go_num,by omega,HT.out,HZ.out,HX.out,_,_,_,_,rfl,HO_r.out,by have:=HL.out;simp;omega,.inr ⟨_,_,HR.out,HS.out⟩⟩
       case measure => simp [intOf];omega
    ·rw [show m - i = 0 by omega] at hr
     have HR : Hid (rr = (wantP E.L E.e ⟨#[41]⟩ s1).bind fun _ s => (wantP E.L E.e ⟨#[59]⟩ s).bind fun _ s => .ok (.mk k ⟨#[]⟩ 0 ls_r) ⟨s.i,s.dep,s.many + 1⟩):=hr
     clear hr
     go_wp2_with fail
     refine (rwant_two HS.out _).mono ?_
     rintro e w84 ⟨rfl,ht9,(⟨m9,s85,hr9,hs9⟩ | ⟨c9,p9,hr9,hs9⟩)⟩
     ·replace HR:=Lib.hid (HR.out.trans (bind_ok hr9))
      clear hr9
      replace HX:=bT HX ht9 NE
      replace HA_r:=Lib.hid (HA_r.out.turned ht9 (sr_ne HQ.out))
      replace HO_r:=Lib.hid (HO_r.out.turned ht9 (row_ne HO_r.out HQ.out))
      replace HZ:=zT HZ ht9
      replace HT:=tT HT ht9
      replace HS:=Lib.hid hs9
      clear ht9 hs9
      go_wp2_with fail
      refine (rwant_two HS.out _).mono ?_
      rintro e w86 ⟨rfl,ht9,(⟨m9,s87,hr9,hs9⟩ | ⟨c9,p9,hr9,hs9⟩)⟩
      ·replace HR:=Lib.hid (HR.out.trans (bind_ok hr9))
       clear hr9
       replace HX:=bT HX ht9 NE
       replace HA_r:=Lib.hid (HA_r.out.turned ht9 (sr_ne HQ.out))
       replace HO_r:=Lib.hid (HO_r.out.turned ht9 (row_ne HO_r.out HQ.out))
       replace HZ:=zT HZ ht9
       replace HT:=tT HT ht9
       replace HS:=Lib.hid hs9
       clear ht9 hs9
       go_wp2_with fail
       obtain ⟨A9,c9,e9,-,hn9⟩:=HO_r.out.nodes (S':=(fun b => w.heap.size < b)) HA_r.out (fun b h => h.1) (row_gt HO_r.out)
       cases e9
       have KN:=Lib.hid hn9
       clear hn9
       refine (rnode_any (r:=.ok nd0 _) k _ _ _ _ HS.out).mono ?_
       rintro e w88 ⟨rfl,ht9,hs9⟩
       have hs9 : RGood _ _ _:=hs9 nd0
       replace KN:=Lib.hid (KN.out.kept ht9.size (fun b hb hs => ht9.block b hb (fun e => absurd hs (by have:=HQ.out;omega))) (fun b _ h => h))
       replace HX:=bT HX ht9 NE
       replace HA_r:=Lib.hid (HA_r.out.turned ht9 (sr_ne HQ.out))
       replace HO_r:=Lib.hid (HO_r.out.turned ht9 (row_ne HO_r.out HQ.out))
       replace HZ:=zT HZ ht9
       replace HT:=tT HT ht9
       replace HS:=Lib.hid hs9
       clear ht9 hs9
       obtain ⟨u0X,u1X,u2X,u3X,g0X,g1X,g2X,g3X,glX⟩:=HX.out.f4
       go_wp2_with fail
       clear u0X u1X u2X u3X g0X g1X g2X g3X glX
       refine open_post (EndG w E _ ⟨k,⟨#[]⟩,0,A_r,(ls_r).length,c_r⟩ (.mk k ⟨#[]⟩ 0 ls_r)) (end_good HE.out HQ.out HT.out HS.out HX.out (x:=⟨k,⟨#[]⟩,0,A_r,(ls_r).length,c_r⟩) (n:=(.mk k ⟨#[]⟩ 0 ls_r)) ⟨⟨rfl,rfl,rfl,rfl⟩,KN.out⟩ (S:=(fun b => w.heap.size < b)) (fun b h => h)) ?_
       rintro W hE
       obtain ⟨v0,v1,v2,v3,-⟩:=hE.blk.f4
       exact bodyPost_ret (v:=nvA ⟨k,⟨#[]⟩,0,A_r,(ls_r).length,c_r⟩) (by simp [results,Tryz.results114,go_sem,v0,v1,v2,v3]) rfl (hE.done HR.out)
      ·replace HR:=Lib.hid (HR.out.trans (bind_no hr9))
       clear hr9
       replace HX:=bT HX ht9 NE
       replace HO_r:=Lib.hid (HO_r.out.turned ht9 (row_ne HO_r.out HQ.out))
       replace HZ:=zT HZ ht9
       replace HT:=tT HT ht9
       replace HS:=Lib.hid hs9
       clear ht9 hs9
       go_wp2_with fail
       refine (rnode_bad HS.out k _ _ _ _).mono ?_
       rintro e w89 ⟨rfl,ht9,hs9⟩
       replace HX:=bT HX ht9 NE
       replace HO_r:=Lib.hid (HO_r.out.turned ht9 (row_ne HO_r.out HQ.out))
       replace HZ:=zT HZ ht9
       replace HT:=tT HT ht9
       replace HS:=Lib.hid hs9
       clear ht9 hs9
       obtain ⟨u0X,u1X,u2X,u3X,g0X,g1X,g2X,g3X,glX⟩:=HX.out.f4
       go_wp2_with fail
       clear u0X u1X u2X u3X g0X g1X g2X g3X glX
       refine open_post (EndB w E _ _ _) (end_bad HE.out HQ.out HT.out HS.out HX.out (x:=⟨_,_,_,_,_,_⟩)) ?_
       rintro W hE
       obtain ⟨v0,v1,v2,v3,-⟩:=hE.blk.f4
       exact bodyPost_ret (v:=nvA ⟨_,_,_,_,_,_⟩) (by simp [results,Tryz.results114,go_sem,v0,v1,v2,v3]) rfl (hE.done HR.out)
     ·replace HR:=Lib.hid (HR.out.trans (bind_no hr9))
      clear hr9
      replace HX:=bT HX ht9 NE
      replace HO_r:=Lib.hid (HO_r.out.turned ht9 (row_ne HO_r.out HQ.out))
      replace HZ:=zT HZ ht9
      replace HT:=tT HT ht9
      replace HS:=Lib.hid hs9
      clear ht9 hs9
      go_wp2_with fail
      refine (rwant_bad HS.out _).mono ?_
      rintro e w90 ⟨rfl,ht9,hs9⟩
      replace HX:=bT HX ht9 NE
      replace HO_r:=Lib.hid (HO_r.out.turned ht9 (row_ne HO_r.out HQ.out))
      replace HZ:=zT HZ ht9
      replace HT:=tT HT ht9
      replace HS:=Lib.hid hs9
      clear ht9 hs9
      go_wp2_with fail
      refine (rnode_bad HS.out k _ _ _ _).mono ?_
      rintro e w91 ⟨rfl,ht9,hs9⟩
      replace HX:=bT HX ht9 NE
      replace HO_r:=Lib.hid (HO_r.out.turned ht9 (row_ne HO_r.out HQ.out))
      replace HZ:=zT HZ ht9
      replace HT:=tT HT ht9
      replace HS:=Lib.hid hs9
      clear ht9 hs9
      obtain ⟨u0X,u1X,u2X,u3X,g0X,g1X,g2X,g3X,glX⟩:=HX.out.f4
      go_wp2_with fail
      clear u0X u1X u2X u3X g0X g1X g2X g3X glX
      refine open_post (EndB w E _ _ _) (end_bad HE.out HQ.out HT.out HS.out HX.out (x:=⟨_,_,_,_,_,_⟩)) ?_
      rintro W hE
      obtain ⟨v0,v1,v2,v3,-⟩:=hE.blk.f4
      exact bodyPost_ret (v:=nvA ⟨_,_,_,_,_,_⟩) (by simp [results,Tryz.results114,go_sem,v0,v1,v2,v3]) rfl (hE.done HR.out)
   ·have HS:=Lib.hid hs
    have HR:=Lib.hid hr
    clear hs hr
    by_cases him : i < m
    ·by_cases hi0 : (0 : Int) < (i : Int)
     ·skip
      go_wp2_with fail
      refine (rwant_bad HS.out _).mono ?_
      rintro e w92 ⟨rfl,ht9,hs9⟩
      replace HX:=bT HX ht9 NE
      replace HO_r:=Lib.hid (HO_r.out.turned ht9 (row_ne HO_r.out HQ.out))
      replace HZ:=zT HZ ht9
      replace HT:=tT HT ht9
      replace HS:=Lib.hid hs9
      clear ht9 hs9
      go_wp2_with fail
      refine ((bdX E _ _ _) HS.out).mono ?_
      rintro e w93 ⟨x_k,rfl,ht9,hs9,-⟩
      have hs9 : RBad _ _ _ _:=hs9
      replace HX:=bT HX ht9 NE
      replace HO_r:=Lib.hid (HO_r.out.turned ht9 (row_ne HO_r.out HQ.out))
      replace HZ:=zT HZ ht9
      replace HT:=tT HT ht9
      replace HS:=Lib.hid hs9
      clear ht9 hs9
      have NE_k:=nE HQ HZ
      have HB_k:=nB w93 x_k
      obtain ⟨o9,ho9⟩:=oN x_k
      replace HX:=bA HX o9
      replace HO_r:=oA HO_r o9
      replace HS:=Lib.hid (HS.out.below (bl _ o9))
      replace HT:=tA HT o9
      replace HZ:=zA HZ o9
      have HZ0:=HZ
      have HSZ:=Lib.hid HZ.out
      replace HX:=bA HX o9
      replace HB_k:=bA HB_k o9
      replace HO_r:=oA HO_r o9
      replace HS:=Lib.hid (HS.out.below (bl _ o9))
      replace HT:=tA HT o9
      replace HZ:=zA HZ o9
      subst ho9
      have LIE:=lN2 w93 x_k
      have BD1 : Hid ((xs_r).length ≤ 1000000):=by have:=HL.out;show _ ≤ _;omega
      have BD2 : Hid ([x_k].length ≤ 1000000):=by show _ ≤ _;simp
      go_wp2_with (at_builtin;refine wpList_joinNd rfl _ _ rfl (w.heap.size + 1) _ _ rfl HO_r.out (some ⟨w93.heap.size + 1,0,none⟩) [x_k] 1 rfl LIE.out BD1.out BD2.out HZ.out ?_;intro A95 n96 c97 w98 hown hgr hpl;have HOWN:=Lib.hid hown;have HGR:=Lib.hid hgr;have HPL:=Lib.hid hpl;clear hown hgr hpl)
      replace HX:=Lib.hid (HX.out.grown HGR.out (row_nw HO_r.out))
      replace HZ:=Lib.hid (Nat.lt_of_lt_of_le HZ.out HGR.out.size)
      replace HT:=Lib.hid (HT.out.grown HGR.out (fun k e => .inr (row_ge HO_r.out k e)))
      have hs9 : RBad _ _ _ _:=RAt.grown (r:=.no _ _) HS.out HE.out HQ.out HGR.out (row_ge HO_r.out)
      replace HS:=Lib.hid hs9
      replace HO_r:=HOWN
      clear hs9 LIE HGR HPL HOWN
      have NS:=Lib.hid (sr_ne (w:=w) (v:=.slice A95 n96 c97) HQ.out)
      go_roundw
      case rel => exact ⟨i + 1,by go_num,by omega,HT.out,HZ.out,HX.out,_,_,_,_,rfl,HO_r.out,by have:=HL.out;simp;omega,.inr ⟨_,_,HR.out,HS.out⟩⟩
      case measure => simp [intOf];omega
     ·skip
      go_wp2_with fail
      refine ((bdX E _ _ _) HS.out).mono ?_
      rintro e w99 ⟨x_k,rfl,ht9,hs9,-⟩
      have hs9 : RBad _ _ _ _:=hs9
      replace HX:=bT HX ht9 NE
      replace HO_r:=Lib.hid (HO_r.out.turned ht9 (row_ne HO_r.out HQ.out))
      replace HZ:=zT HZ ht9
      replace HT:=tT HT ht9
      replace HS:=Lib.hid hs9
      clear ht9 hs9
      have NE_k:=nE HQ HZ
      have HB_k:=nB w99 x_k
      obtain ⟨o9,ho9⟩:=oN x_k
      replace HX:=bA HX o9
      replace HO_r:=oA HO_r o9
      replace HS:=Lib.hid (HS.out.below (bl _ o9))
      replace HT:=tA HT o9
      replace HZ:=zA HZ o9
      have HZ0:=HZ
      have HSZ:=Lib.hid HZ.out
      replace HX:=bA HX o9
      replace HB_k:=bA HB_k o9
      replace HO_r:=oA HO_r o9
      replace HS:=Lib.hid (HS.out.below (bl _ o9))
      replace HT:=tA HT o9
      replace HZ:=zA HZ o9
      subst ho9
      have LIE:=lN2 w99 x_k
      have BD1 : Hid ((xs_r).length ≤ 1000000):=by have:=HL.out;show _ ≤ _;omega
      have BD2 : Hid ([x_k].length ≤ 1000000):=by show _ ≤ _;simp
      go_wp2_with (at_builtin;refine wpList_joinNd rfl _ _ rfl (w.heap.size + 1) _ _ rfl HO_r.out (some ⟨w99.heap.size + 1,0,none⟩) [x_k] 1 rfl LIE.out BD1.out BD2.out HZ.out ?_;intro A101 n102 c103 w104 hown hgr hpl;have HOWN:=Lib.hid hown;have HGR:=Lib.hid hgr;have HPL:=Lib.hid hpl;clear hown hgr hpl)
      replace HX:=Lib.hid (HX.out.grown HGR.out (row_nw HO_r.out))
      replace HZ:=Lib.hid (Nat.lt_of_lt_of_le HZ.out HGR.out.size)
      replace HT:=Lib.hid (HT.out.grown HGR.out (fun k e => .inr (row_ge HO_r.out k e)))
      have hs9 : RBad _ _ _ _:=RAt.grown (r:=.no _ _) HS.out HE.out HQ.out HGR.out (row_ge HO_r.out)
      replace HS:=Lib.hid hs9
      replace HO_r:=HOWN
      clear hs9 LIE HGR HPL HOWN
      have NS:=Lib.hid (sr_ne (w:=w) (v:=.slice A101 n102 c103) HQ.out)
      go_roundw
      case rel => exact ⟨i + 1,by go_num,by omega,HT.out,HZ.out,HX.out,_,_,_,_,rfl,HO_r.out,by have:=HL.out;simp;omega,.inr ⟨_,_,HR.out,HS.out⟩⟩
      case measure => simp [intOf];omega
    ·skip
     go_wp2_with fail
     refine (rwant_bad HS.out _).mono ?_
     rintro e w105 ⟨rfl,ht9,hs9⟩
     replace HX:=bT HX ht9 NE
     replace HO_r:=Lib.hid (HO_r.out.turned ht9 (row_ne HO_r.out HQ.out))
     replace HZ:=zT HZ ht9
     replace HT:=tT HT ht9
     replace HS:=Lib.hid hs9
     clear ht9 hs9
     go_wp2_with fail
     refine (rwant_bad HS.out _).mono ?_
     rintro e w106 ⟨rfl,ht9,hs9⟩
     replace HX:=bT HX ht9 NE
     replace HO_r:=Lib.hid (HO_r.out.turned ht9 (row_ne HO_r.out HQ.out))
     replace HZ:=zT HZ ht9
     replace HT:=tT HT ht9
     replace HS:=Lib.hid hs9
     clear ht9 hs9
     go_wp2_with fail
     refine (rnode_bad HS.out k _ _ _ _).mono ?_
     rintro e w107 ⟨rfl,ht9,hs9⟩
     replace HX:=bT HX ht9 NE
     replace HO_r:=Lib.hid (HO_r.out.turned ht9 (row_ne HO_r.out HQ.out))
     replace HZ:=zT HZ ht9
     replace HT:=tT HT ht9
     replace HS:=Lib.hid hs9
     clear ht9 hs9
     obtain ⟨u0X,u1X,u2X,u3X,g0X,g1X,g2X,g3X,glX⟩:=HX.out.f4
     go_wp2_with fail
     clear u0X u1X u2X u3X g0X g1X g2X g3X glX
     refine open_post (EndB w E _ _ _) (end_bad HE.out HQ.out HT.out HS.out HX.out (x:=⟨_,_,_,_,_,_⟩)) ?_
     rintro W hE
     obtain ⟨v0,v1,v2,v3,-⟩:=hE.blk.f4
     exact bodyPost_ret (v:=nvA ⟨_,_,_,_,_,_⟩) (by simp [results,Tryz.results114,go_sem,v0,v1,v2,v3]) rfl (hE.done HR.out)
set_option maxRecDepth 100000 in
set_option maxHeartbeats 1600000 in
theorem rblock_bad  : RFlat 70:=by
 intro E c p w h
 have hE : RAt w E (.no c p):=h
 have HE:=Lib.hid hE.env
 have HQ:=Lib.hid hE.old
 have NE : Hid (¬ w.heap.size = E.Q):=by have:=hE.old;show ¬ _;omega
 have NS : Hid (∀ b,(fun b => w.heap.size < b) b → ¬ b = E.Q):=fun b hb e => by have h1:=hE.old;have h2 : w.heap.size < b:=hb;omega
 obtain ⟨o9,ho9⟩:=oZ
 have hb0:=bl w o9
 have HS:=Lib.hid (h.below hb0)
 have HT:=Lib.hid (Turned.of_below (fun b => b = E.Q) hb0)
 have HX:=zB w
 have HZ:=zN w o9
 subst ho9
 clear h hE hb0
 go_enter Tryz.func70,Tryz.ntmps70
 obtain ⟨o9,ho9⟩:=oZ
 have HO_r:=Lib.hid (OwnN.nil (w.alloc o9) (w.heap.size + 1))
 subst ho9
 have NS:=Lib.hid (sr_ne (w:=w) (v:=.slice none 0 0) HQ.out)
 go_wp2_with fail
 generalize (w.alloc (.cells #[.int .i64 0,.string ⟨#[]⟩,.int .i64 0,.slice none 0 0] 24)) = w1 at *
 refine (rwant_bad HS.out _).mono ?_
 rintro e w2 ⟨rfl,ht9,hs9⟩
 replace HX:=bT HX ht9 NE
 replace HO_r:=Lib.hid (HO_r.out.turned ht9 (row_ne HO_r.out HQ.out))
 replace HZ:=zT HZ ht9
 replace HT:=tT HT ht9
 replace HS:=Lib.hid hs9
 clear ht9 hs9
 go_wp2_with fail
 go_loopw [3,4] (fun v u wr => v = .slice none 0 0 ∧ u = .int .i64 0 ∧ Turned w wr (fun b => b = E.Q) ∧ w.heap.size < wr.heap.size ∧ Blk wr w.heap.size 24 #[.int .i64 0,.string ⟨#[]⟩,.int .i64 0,.slice none 0 0] ∧ RBad wr E c p) (fun _ _ _ => 0)
 case atStart => exact ⟨rfl,rfl,HT.out,HZ.out,HX.out,HS.out⟩
 case round =>
  clear HT HZ HX HS HO_r
  obtain ⟨rfl,rfl,ht,hz,hx,hs⟩:=hrel
  have HT:=Lib.hid ht
  have HZ:=Lib.hid hz
  have HX:=Lib.hid hx
  have HS:=Lib.hid hs
  have hfew:=hs.env.few
  clear ht hz hx hs
  have HO_r:=Lib.hid (OwnN.nil wr (w.heap.size + 1))
  obtain ⟨zi,zd,zm,hq⟩:=HS.out.blk
  obtain ⟨z0,z1,z2,z3,z4,z5,z6,z7,z8,z9,z10,z11,zl⟩:=hq.f7
  have zc:=HS.out.ne
  clear hq
  go_wp2_with fail
  clear z0 z1 z2 z3 z4 z5 z6 z7 z8 z9 z10 z11 zl zc
  refine (rwant_bad HS.out _).mono ?_
  rintro e w3 ⟨rfl,ht9,hs9⟩
  replace HX:=bT HX ht9 NE
  replace HO_r:=Lib.hid (HO_r.out.turned ht9 (row_ne HO_r.out HQ.out))
  replace HZ:=zT HZ ht9
  replace HT:=tT HT ht9
  replace HS:=Lib.hid hs9
  clear ht9 hs9
  go_wp2_with fail
  refine (rnode_bad HS.out 6 _ _ _ _).mono ?_
  rintro e w4 ⟨rfl,ht9,hs9⟩
  replace HX:=bT HX ht9 NE
  replace HO_r:=Lib.hid (HO_r.out.turned ht9 (row_ne HO_r.out HQ.out))
  replace HZ:=zT HZ ht9
  replace HT:=tT HT ht9
  replace HS:=Lib.hid hs9
  clear ht9 hs9
  obtain ⟨u0X,u1X,u2X,u3X,g0X,g1X,g2X,g3X,glX⟩:=HX.out.f4
  go_wp2_with fail
  clear u0X u1X u2X u3X g0X g1X g2X g3X glX
  refine open_post (EndB w E _ _ _) (end_bad HE.out HQ.out HT.out HS.out HX.out (x:=⟨_,_,_,_,_,_⟩)) ?_
  rintro W hE
  obtain ⟨v0,v1,v2,v3,-⟩:=hE.blk.f4
  exact bodyPost_ret (v:=nvA ⟨_,_,_,_,_,_⟩) (by simp [results,Tryz.results70,go_sem,v0,v1,v2,v3]) rfl (hE.done rfl)
end Go.Proofs.YtbpldfmmlgkfnaaGreatDoor
