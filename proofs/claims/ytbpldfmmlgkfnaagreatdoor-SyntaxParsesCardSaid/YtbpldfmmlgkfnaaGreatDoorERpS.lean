/- The document's parser: rows of nodes that grow; blocks. The document's parser: a state that is well or has given up, gone through by one way. Conditions: as each theorem says. -/
import Derived.Test.YtbpldfmmlgkfnaaGreatDoorEMemZ
import Derived.Test.YtbpldfmmlgkfnaaGreatDoorERpF
namespace Go.Proofs.YtbpldfmmlgkfnaaGreatDoor
open Go.RowKit
set_option linter.unusedVariables false
/-- Blocks that a row's elements may lie in. -/
def SR (w : World) (v : Value) : Nat → Prop:=fun b => w.heap.size < b ∧ v.ownBlock ≠ some b
theorem sr_ne {w : World} {v : Value} {Q : Nat} (h : Q < w.heap.size) : ∀ b,SR w v b → ¬ b = Q:=fun b hb e => by have:=hb.1;omega
section
variable {w W : World} {v : Value} {xs : List NV} (h : OwnN W (w.heap.size + 1) v xs)
include h
theorem row_ne {Q : Nat} (hQ : Q < w.heap.size) : ∀ k,v.ownBlock = some k → ¬ k = Q:=fun k hk e => by have:=(h.lt k hk).1;omega
theorem row_ge : ∀ k,v.ownBlock = some k → w.heap.size ≤ k:=fun k hk => by have:=(h.lt k hk).1;omega
theorem row_gt : ∀ k,v.ownBlock = some k → w.heap.size < k:=fun k hk => (h.lt k hk).1
theorem row_nw : some w.heap.size ≠ v.ownBlock:=fun e => by have:=(h.lt _ e.symm).1;omega
end
theorem AllN.alloc {w : World} {S : Nat → Prop} {xs : List NV} {l : List Nd} (h : AllN w S xs l) (o : Obj) : AllN (w.alloc o) S xs l:=⟨h.1,fun i x n hx hn => (h.2 i x n hx hn).alloc o⟩
theorem AllN.pushed {w W W' : World} {v v' : Value} {xs : List NV} {l : List Nd} {x : NV} {n : Nd} {base : Nat} {ys : List NV} (h : AllN W (SR w v) xs l) (hx : IsN W (SR w v) x n) (ho : OwnN W base v ys) (hg : W.grownBy W' v.ownBlock) (hp : ∀ k,v'.ownBlock = some k → v.ownBlock = some k ∨ k = W.heap.size) : AllN W' (SR w v') (xs ++ [x]) (l ++ [n]):=by
 have hb : ∀ b,b < W.heap.size → SR w v b → W'.heap[b]? = W.heap[b]?:=fun b hb hs => hg.block b hb (fun e => hs.2 e.symm)
 have hS : ∀ b,b < W.heap.size → SR w v b → SR w v' b:=fun b hb hs => ⟨hs.1,fun e => by
  rcases hp b e with h1 | h1
  ·exact hs.2 h1
  ·omega⟩
 exact (h.kept hg.size hb hS).snoc (hx.kept hg.size hb hS)
theorem RAt.grown {w0 W W' : World} {E : Env} {r : Res} {row : Option Nat} (h : RAt W E r) (h0 : EnvOk w0 E) (hQ : E.Q < w0.heap.size) (hg : W.grownBy W' row) (hr : ∀ k,row = some k → w0.heap.size ≤ k) : RAt W' E r:=by
 have he : ∀ (h : EnvOk W E),EnvOk W' E:=fun h => ⟨fun hl => by
  obtain ⟨b,o,e,hlt,hc⟩:=h.toks hl
  have hb0 : b < w0.heap.size:=by
   obtain ⟨b',o',e',hlt',-⟩:=h0.toks hl
   rw [e] at e';cases e';exact hlt'
  have hbq:=hg.block b hlt (fun e => by have:=hr b e.symm;omega)
  refine ⟨b,o,e,Nat.lt_of_lt_of_le hlt hg.size,fun i hi => ?_⟩
  obtain ⟨h1,h2,h3⟩:=hc i hi
  exact ⟨(World.cell?_of_block (a:=⟨b,o + i * 3,none⟩) hbq).trans h1,(World.cell?_of_block (a:=⟨b,o + i * 3 + 1,none⟩) hbq).trans h2,(World.cell?_of_block (a:=⟨b,o + i * 3 + 2,none⟩) hbq).trans h3⟩,h.far,h.few,h.cap_,h.okt⟩
 have hq : W'.heap[E.Q]? = W.heap[E.Q]?:=hg.block _ h.old (fun e => by have:=hr _ e.symm;omega)
 cases r with
 | ok n s => exact ⟨he (RGood.env h),RGood.le h,RGood.lo h,RGood.hi h,hq.trans (RGood.blk h)⟩
 | no c p => exact ⟨he (RBad.env h),RBad.ne h,by obtain ⟨i,d,m,hq'⟩:=RBad.blk h;exact ⟨i,d,m,hq.trans hq'⟩⟩
 | out => exact h.elim
theorem ok_bind (n : Nd) (s : PS) (k : Nd → PS → Res) : (Res.ok n s).bind k = k n s:=rfl
theorem bind_assoc (r : Res) (f g : Nd → PS → Res) : (r.bind f).bind g = r.bind fun n s => (f n s).bind g:=by cases r <;> rfl
/-- What a loop over a row holds. -/
def BInv (w : World) (E : Env) (rr : Res) (K : Nd → PS → Res) (cmd : List Nd → Cmd) (f m i : Nat) (v : Value) (wr : World) : Prop :=
 Turned w wr (fun b => b = E.Q) ∧ w.heap.size < wr.heap.size ∧ Blk wr w.heap.size 24 #[.int .i64 0,.string ⟨#[]⟩,.int .i64 0,.slice none 0 0] ∧
  ∃ A n c xs,v = .slice A n c ∧ OwnN wr (w.heap.size + 1) (.slice A n c) xs ∧ xs.length ≤ m + i ∧
   ((∃ g ls s',g ≤ f ∧ rr = (run E.L E.e g (cmd ls) s').bind K ∧ RGood wr E s' ∧ i ≤ s'.i ∧ AllN wr (SR w (.slice A n c)) xs ls) ∨ (∃ c p,rr = .no c p ∧ RBad wr E c p))

set_option maxRecDepth 100000 in
set_option maxHeartbeats 1600000 in
theorem rblock_any {f : Nat} (ihM : ∀ g,g ≤ f → RCall g .stmt 98) {E : Env} {s : PS} {w : World} (h : RGood w E s) (hout : run E.L E.e (f + 1) .block s ≠ .out) : Calls Tryz.prog 70 #[.pointer (some ⟨E.Q,0,none⟩)] w (REnd E (run E.L E.e (f + 1) .block s) w):=by
 have hfew:=h.env.few
 have hE : RAt w E (.ok nd0 s):=h
 have HO:=Lib.hid hout
 generalize hrr : run E.L E.e (f + 1) .block s = rr at *
 have hr:=hrr.symm
 simp only [run,nodeP,tx_nil,tx_lb,tx_rb,] at hr
 have HR:=Lib.hid hr
 clear hrr hr hout
 have HE:=Lib.hid hE.env
 have HQ:=Lib.hid hE.old
 have NE : Hid (¬ w.heap.size = E.Q):=by have:=hE.old;show ¬ _;omega
 have NS : Hid (∀ b,(fun b => w.heap.size < b) b → ¬ b = E.Q):=fun b hb e => by have h1:=hE.old;have h2 : w.heap.size < b:=hb;omega
 obtain ⟨o9,ho9⟩:=oZ
 have hb0:=bl w o9
 have HS:=Lib.hid (h.below hb0)
 have HT:=Lib.hid (Turned.of_below (fun b => b = E.Q) hb0)
 have HX:=zB w
 have HZ:=zN w o9
 subst ho9
 clear h hE hb0
 go_enter Tryz.func70,Tryz.ntmps70
 obtain ⟨o9,ho9⟩:=oZ
 have HO_r:=Lib.hid (OwnN.nil (w.alloc o9) (w.heap.size + 1))
 have HA_r:=Lib.hid (AllN.nil (w.alloc o9) (SR w (.slice none 0 0)))
 subst ho9
 have NS:=Lib.hid (sr_ne (w:=w) (v:=.slice none 0 0) HQ.out)
 go_wp2_with fail
 generalize (w.alloc (.cells #[.int .i64 0,.string ⟨#[]⟩,.int .i64 0,.slice none 0 0] 24)) = w1 at *
 refine (rwant_two HS.out _).mono ?_
 rintro e w2 ⟨rfl,ht9,(⟨m9,s3,hr9,hs9⟩ | ⟨c9,p9,hr9,hs9⟩)⟩
 ·replace HR:=Lib.hid (HR.out.trans (bind_ok hr9))
  clear hr9
  replace HX:=bT HX ht9 NE
  replace HA_r:=Lib.hid (HA_r.out.turned ht9 (sr_ne HQ.out))
  replace HO_r:=Lib.hid (HO_r.out.turned ht9 (row_ne HO_r.out HQ.out))
  replace HZ:=zT HZ ht9
  replace HT:=tT HT ht9
  replace HS:=Lib.hid hs9
  clear ht9 hs9
  go_wp2_with fail
  go_loopw [3,4] (fun v u wr => ∃ i : Nat,u = .int .i64 (i : Int) ∧ i ≤ E.L.length + 1 ∧ BInv w E rr (fun a s => (wantP E.L E.e ⟨#[125]⟩ s).bind fun _ s => .ok (.mk 6 ⟨#[]⟩ 0 a.kids) ⟨s.i,s.dep,s.many + 1⟩) .stmtsL f 0 i v wr ∧ ((∃ c p,rr = .no c p) ∨ i ≤ E.L.length)) (fun _ u _ => E.L.length + 2 - (intOf u).toNat)
  case atStart => exact ⟨0,rfl,Nat.zero_le _,⟨HT.out,HZ.out,HX.out,_,_,_,_,rfl,HO_r.out,Nat.le_refl _,.inl ⟨f,[],_,Nat.le_refl _,HR.out,HS.out,Nat.zero_le _,HA_r.out⟩⟩,.inr (Nat.zero_le _)⟩
  case round =>
   clear HT HZ HX HO_r HR HS HA_r
   obtain ⟨i,rfl,hi,⟨ht,hz,hx,A_r,n_r,c_r,xs_r,rfl,ho,hl,hg⟩,hbd⟩:=hrel
   have HT:=Lib.hid ht
   have HZ:=Lib.hid hz
   have HX:=Lib.hid hx
   have HO_r:=Lib.hid ho
   have HL:=Lib.hid hl
   clear ht hz hx ho hl
   have hwi : IntKind.i64.wrap ((i : Int) + 1) = (i : Int) + 1:=IntWalk.i64_in _ (by omega)
   rcases hg with ⟨g,ls_r,s1,hgf,hr,hs,his,ha⟩ | ⟨c1,p1,hr,hs⟩
   ·have HS:=Lib.hid hs
    have HA_r:=Lib.hid ha
    have hil : i ≤ E.L.length:=Nat.le_trans his hs.le
    have HRR:=Lib.hid hr
    have NS:=Lib.hid (sr_ne (w:=w) (v:=.slice A_r n_r c_r) HQ.out)
    cases g with
    | zero => exact absurd (hr.trans rfl) HO.out
    | succ g =>
     simp only [run,tx_rb] at hr
     clear hs ha hbd HRR
     obtain ⟨z0,z1,z2,z3,z4,z5,z6,z7,z8,z9,z10,z11,zl⟩:=HS.out.blk.f7
     cases h1 : seesP E.L ⟨#[125]⟩ s1
     ·rw [if_neg (by rw [h1];decide),bind_assoc] at hr
      have H1:=Lib.hid h1
      have HR:=Lib.hid hr
      clear h1 hr
      go_wp2_with fail
      clear z0 z1 z2 z3 z4 z5 z6 z7 z8 z9 z10 z11 zl
      refine (rsees_is HS.out H1.out).mono ?_
      rintro e w4 ⟨rfl,hb9⟩
      have ht9:=Turned.of_below (fun b => b = E.Q) hb9
      have hs9:=HS.out.below hb9
      clear hb9
      replace HX:=bT HX ht9 NE
      replace HA_r:=Lib.hid (HA_r.out.turned ht9 (sr_ne HQ.out))
      replace HO_r:=Lib.hid (HO_r.out.turned ht9 (row_ne HO_r.out HQ.out))
      replace HZ:=zT HZ ht9
      replace HT:=tT HT ht9
      replace HS:=Lib.hid hs9
      clear ht9 hs9
      go_wp2_with fail
      refine ((ihM g (Nat.le_of_succ_le hgf) E) _ _ HS.out (fun h => HO.out (HR.out.trans (bind_out h)))).mono ?_
      rintro e w5 hq9
      rcases hq9.two (fun h => HO.out (HR.out.trans (bind_out h))) with ⟨n_k,s6,x_k,hr9,rfl,ht9,hs9,hi9⟩ | ⟨c9,p9,x_k,hr9,rfl,ht9,hs9⟩
      ·replace HR:=Lib.hid (HR.out.trans (bind_ok hr9))
       have MO : Hid (s1.i + 1 ≤ s6.i):=by have h:=run_mono _ _ _ _ _ _ _ hr9;simp only [str,] at h;show _ ≤ _;omega
       clear hr9 hq9
       have T_k:=Lib.hid (hi9.weak (S':=(SR w (.slice A_r n_r c_r))) (fun b hb h => ⟨Nat.lt_of_lt_of_le HZ.out h,fun e => Nat.lt_irrefl _ (Nat.lt_of_lt_of_le (HO_r.out.lt _ e).2 h)⟩))
       clear hi9
       replace HX:=bT HX ht9 NE
       replace HA_r:=Lib.hid (HA_r.out.turned ht9 (sr_ne HQ.out))
       replace HO_r:=Lib.hid (HO_r.out.turned ht9 (row_ne HO_r.out HQ.out))
       replace HZ:=zT HZ ht9
       replace HT:=tT HT ht9
       replace HS:=Lib.hid hs9
       clear ht9 hs9
       have NE_k:=nE HQ HZ
       have HB_k:=nB w5 x_k
       obtain ⟨o9,ho9⟩:=oN x_k
       replace HX:=bA HX o9
       replace T_k:=nA T_k o9
       replace HA_r:=Lib.hid (HA_r.out.alloc o9)
       replace HO_r:=oA HO_r o9
       replace HS:=Lib.hid (HS.out.below (bl _ o9))
       replace HT:=tA HT o9
       replace HZ:=zA HZ o9
       have HZ0:=HZ
       have HSZ:=Lib.hid HZ.out
       replace HX:=bA HX o9
       replace HB_k:=bA HB_k o9
       replace T_k:=nA T_k o9
       replace HA_r:=Lib.hid (HA_r.out.alloc o9)
       replace HO_r:=oA HO_r o9
       replace HS:=Lib.hid (HS.out.below (bl _ o9))
       replace HT:=tA HT o9
       replace HZ:=zA HZ o9
       subst ho9
       have LIE:=lN2 w5 x_k
       have BD1 : Hid ((xs_r).length ≤ 1000000):=by have:=HL.out;show _ ≤ _;omega
       have BD2 : Hid ([x_k].length ≤ 1000000):=by show _ ≤ _;simp
       go_wp2_with (at_builtin;refine wpList_joinNd rfl _ _ rfl (w.heap.size + 1) _ _ rfl HO_r.out (some ⟨w5.heap.size + 1,0,none⟩) [x_k] 1 rfl LIE.out BD1.out BD2.out HZ.out ?_;intro A7 n8 c9 w10 hown hgr hpl;have HOWN:=Lib.hid hown;have HGR:=Lib.hid hgr;have HPL:=Lib.hid hpl;clear hown hgr hpl)
       replace HX:=Lib.hid (HX.out.grown HGR.out (row_nw HO_r.out))
       replace HZ:=Lib.hid (Nat.lt_of_lt_of_le HZ.out HGR.out.size)
       replace HT:=Lib.hid (HT.out.grown HGR.out (fun k e => .inr (row_ge HO_r.out k e)))
       have hs9 : RGood _ _ _:=RAt.grown (r:=.ok nd0 _) HS.out HE.out HQ.out HGR.out (row_ge HO_r.out)
       replace HA_r:=Lib.hid (HA_r.out.pushed T_k.out HO_r.out HGR.out HPL.out)
       replace HS:=Lib.hid hs9
       replace HO_r:=HOWN
       clear hs9 LIE HGR HPL HOWN
       have NS:=Lib.hid (sr_ne (w:=w) (v:=.slice A7 n8 c9) HQ.out)
       go_roundw
       case rel => exact ⟨i + 1,by go_num,by omega,⟨HT.out,HZ.out,HX.out,_,_,_,_,rfl,HO_r.out,by have:=HL.out;simp;omega,.inl ⟨g,_,_,Nat.le_of_succ_le hgf,HR.out,HS.out,Nat.le_trans (Nat.succ_le_succ his) MO.out,HA_r.out⟩⟩,.inr (Nat.le_trans (Nat.le_trans (Nat.succ_le_succ his) MO.out) HS.out.le)⟩
       case measure => simp [intOf];omega
      ·replace HR:=Lib.hid (HR.out.trans (bind_no hr9))
       clear hr9 hq9
       replace HX:=bT HX ht9 NE
       replace HO_r:=Lib.hid (HO_r.out.turned ht9 (row_ne HO_r.out HQ.out))
       replace HZ:=zT HZ ht9
       replace HT:=tT HT ht9
       replace HS:=Lib.hid hs9
       clear ht9 hs9
       have NE_k:=nE HQ HZ
       have HB_k:=nB w5 x_k
       obtain ⟨o9,ho9⟩:=oN x_k
       replace HX:=bA HX o9
       replace HO_r:=oA HO_r o9
       replace HS:=Lib.hid (HS.out.below (bl _ o9))
       replace HT:=tA HT o9
       replace HZ:=zA HZ o9
       have HZ0:=HZ
       have HSZ:=Lib.hid HZ.out
       replace HX:=bA HX o9
       replace HB_k:=bA HB_k o9
       replace HO_r:=oA HO_r o9
       replace HS:=Lib.hid (HS.out.below (bl _ o9))
       replace HT:=tA HT o9
       replace HZ:=zA HZ o9
       subst ho9
       have LIE:=lN2 w5 x_k
       have BD1 : Hid ((xs_r).length ≤ 1000000):=by have:=HL.out;show _ ≤ _;omega
       have BD2 : Hid ([x_k].length ≤ 1000000):=by show _ ≤ _;simp
       go_wp2_with (at_builtin;refine wpList_joinNd rfl _ _ rfl (w.heap.size + 1) _ _ rfl HO_r.out (some ⟨w5.heap.size + 1,0,none⟩) [x_k] 1 rfl LIE.out BD1.out BD2.out HZ.out ?_;intro A11 n12 c13 w14 hown hgr hpl;have HOWN:=Lib.hid hown;have HGR:=Lib.hid hgr;have HPL:=Lib.hid hpl;clear hown hgr hpl)
       replace HX:=Lib.hid (HX.out.grown HGR.out (row_nw HO_r.out))
       replace HZ:=Lib.hid (Nat.lt_of_lt_of_le HZ.out HGR.out.size)
       replace HT:=Lib.hid (HT.out.grown HGR.out (fun k e => .inr (row_ge HO_r.out k e)))
       have hs9 : RBad _ _ _ _:=RAt.grown (r:=.no _ _) HS.out HE.out HQ.out HGR.out (row_ge HO_r.out)
       replace HS:=Lib.hid hs9
       replace HO_r:=HOWN
       clear hs9 LIE HGR HPL HOWN
       have NS:=Lib.hid (sr_ne (w:=w) (v:=.slice A11 n12 c13) HQ.out)
       go_roundw
       case rel => exact ⟨i + 1,by go_num,by omega,⟨HT.out,HZ.out,HX.out,_,_,_,_,rfl,HO_r.out,by have:=HL.out;simp;omega,.inr ⟨_,_,HR.out,HS.out⟩⟩,.inl ⟨_,_,HR.out⟩⟩
       case measure => simp [intOf];omega
     ·rw [if_pos h1] at hr
      have H1:=Lib.hid h1
      rw [ok_bind] at hr
      try dsimp only at hr
      have HR:=Lib.hid hr
      clear h1 hr
      go_wp2_with fail
      clear z0 z1 z2 z3 z4 z5 z6 z7 z8 z9 z10 z11 zl
      refine (rsees_is HS.out H1.out).mono ?_
      rintro e w15 ⟨rfl,hb9⟩
      have ht9:=Turned.of_below (fun b => b = E.Q) hb9
      have hs9:=HS.out.below hb9
      clear hb9
      replace HX:=bT HX ht9 NE
      replace HA_r:=Lib.hid (HA_r.out.turned ht9 (sr_ne HQ.out))
      replace HO_r:=Lib.hid (HO_r.out.turned ht9 (row_ne HO_r.out HQ.out))
      replace HZ:=zT HZ ht9
      replace HT:=tT HT ht9
      replace HS:=Lib.hid hs9
      clear ht9 hs9
      go_wp2_with fail
      refine (rwant_two HS.out _).mono ?_
      rintro e w16 ⟨rfl,ht9,(⟨m9,s17,hr9,hs9⟩ | ⟨c9,p9,hr9,hs9⟩)⟩
      ·replace HR:=Lib.hid (HR.out.trans (bind_ok hr9))
       clear hr9
       replace HX:=bT HX ht9 NE
       replace HA_r:=Lib.hid (HA_r.out.turned ht9 (sr_ne HQ.out))
       replace HO_r:=Lib.hid (HO_r.out.turned ht9 (row_ne HO_r.out HQ.out))
       replace HZ:=zT HZ ht9
       replace HT:=tT HT ht9
       replace HS:=Lib.hid hs9
       clear ht9 hs9
       go_wp2_with fail
       obtain ⟨A9,c9,e9,-,hn9⟩:=HO_r.out.nodes (S':=(fun b => w.heap.size < b)) HA_r.out (fun b h => h.1) (row_gt HO_r.out)
       cases e9
       have KN:=Lib.hid hn9
       clear hn9
       refine (rnode_any (r:=.ok nd0 _) 6 _ _ _ _ HS.out).mono ?_
       rintro e w18 ⟨rfl,ht9,hs9⟩
       have hs9 : RGood _ _ _:=hs9 nd0
       replace KN:=Lib.hid (KN.out.kept ht9.size (fun b hb hs => ht9.block b hb (fun e => absurd hs (by have:=HQ.out;omega))) (fun b _ h => h))
       replace HX:=bT HX ht9 NE
       replace HA_r:=Lib.hid (HA_r.out.turned ht9 (sr_ne HQ.out))
       replace HO_r:=Lib.hid (HO_r.out.turned ht9 (row_ne HO_r.out HQ.out))
       replace HZ:=zT HZ ht9
       replace HT:=tT HT ht9
       replace HS:=Lib.hid hs9
       clear ht9 hs9
       obtain ⟨u0X,u1X,u2X,u3X,g0X,g1X,g2X,g3X,glX⟩:=HX.out.f4
       go_wp2_with fail
       clear u0X u1X u2X u3X g0X g1X g2X g3X glX
       refine open_post (EndG w E _ ⟨6,⟨#[]⟩,0,A_r,(ls_r).length,c_r⟩ (.mk 6 ⟨#[]⟩ 0 ls_r)) (end_good HE.out HQ.out HT.out HS.out HX.out (x:=⟨6,⟨#[]⟩,0,A_r,(ls_r).length,c_r⟩) (n:=(.mk 6 ⟨#[]⟩ 0 ls_r)) ⟨⟨rfl,rfl,rfl,rfl⟩,KN.out⟩ (S:=(fun b => w.heap.size < b)) (fun b h => h)) ?_
       rintro W hE
       obtain ⟨v0,v1,v2,v3,-⟩:=hE.blk.f4
       exact bodyPost_ret (v:=nvA ⟨6,⟨#[]⟩,0,A_r,(ls_r).length,c_r⟩) (by simp [results,Tryz.results70,go_sem,v0,v1,v2,v3]) rfl (hE.done HR.out)
      ·replace HR:=Lib.hid (HR.out.trans (bind_no hr9))
       clear hr9
       replace HX:=bT HX ht9 NE
       replace HO_r:=Lib.hid (HO_r.out.turned ht9 (row_ne HO_r.out HQ.out))
       replace HZ:=zT HZ ht9
       replace HT:=tT HT ht9
       replace HS:=Lib.hid hs9
       clear ht9 hs9
       go_wp2_with fail
       refine (rnode_bad HS.out 6 _ _ _ _).mono ?_
       rintro e w19 ⟨rfl,ht9,hs9⟩
       replace HX:=bT HX ht9 NE
       replace HO_r:=Lib.hid (HO_r.out.turned ht9 (row_ne HO_r.out HQ.out))
       replace HZ:=zT HZ ht9
       replace HT:=tT HT ht9
       replace HS:=Lib.hid hs9
       clear ht9 hs9
       obtain ⟨u0X,u1X,u2X,u3X,g0X,g1X,g2X,g3X,glX⟩:=HX.out.f4
       go_wp2_with fail
       clear u0X u1X u2X u3X g0X g1X g2X g3X glX
       refine open_post (EndB w E _ _ _) (end_bad HE.out HQ.out HT.out HS.out HX.out (x:=⟨_,_,_,_,_,_⟩)) ?_
       rintro W hE
       obtain ⟨v0,v1,v2,v3,-⟩:=hE.blk.f4
       exact bodyPost_ret (v:=nvA ⟨_,_,_,_,_,_⟩) (by simp [results,Tryz.results70,go_sem,v0,v1,v2,v3]) rfl (hE.done HR.out)
   ·have HS:=Lib.hid hs
    have HR:=Lib.hid hr
    by_cases hil : i ≤ E.L.length
    ·skip
     clear hs hr hbd
     obtain ⟨zi,zd,zm,hq⟩:=HS.out.blk
     obtain ⟨z0,z1,z2,z3,z4,z5,z6,z7,z8,z9,z10,z11,zl⟩:=hq.f7
     have zc:=HS.out.ne
     clear hq
     go_wp2_with fail
     clear z0 z1 z2 z3 z4 z5 z6 z7 z8 z9 z10 z11 zl zc
     refine (rwant_bad HS.out _).mono ?_
     rintro e w20 ⟨rfl,ht9,hs9⟩
     replace HX:=bT HX ht9 NE
     replace HO_r:=Lib.hid (HO_r.out.turned ht9 (row_ne HO_r.out HQ.out))
     replace HZ:=zT HZ ht9
     replace HT:=tT HT ht9
     replace HS:=Lib.hid hs9
     clear ht9 hs9
     go_wp2_with fail
     refine (rnode_bad HS.out 6 _ _ _ _).mono ?_
     rintro e w21 ⟨rfl,ht9,hs9⟩
     replace HX:=bT HX ht9 NE
     replace HO_r:=Lib.hid (HO_r.out.turned ht9 (row_ne HO_r.out HQ.out))
     replace HZ:=zT HZ ht9
     replace HT:=tT HT ht9
     replace HS:=Lib.hid hs9
     clear ht9 hs9
     obtain ⟨u0X,u1X,u2X,u3X,g0X,g1X,g2X,g3X,glX⟩:=HX.out.f4
     go_wp2_with fail
     clear u0X u1X u2X u3X g0X g1X g2X g3X glX
     refine open_post (EndB w E _ _ _) (end_bad HE.out HQ.out HT.out HS.out HX.out (x:=⟨_,_,_,_,_,_⟩)) ?_
     rintro W hE
     obtain ⟨v0,v1,v2,v3,-⟩:=hE.blk.f4
     exact bodyPost_ret (v:=nvA ⟨_,_,_,_,_,_⟩) (by simp [results,Tryz.results70,go_sem,v0,v1,v2,v3]) rfl (hE.done HR.out)
    ·skip
     clear hs hr hbd
     obtain ⟨zi,zd,zm,hq⟩:=HS.out.blk
     obtain ⟨z0,z1,z2,z3,z4,z5,z6,z7,z8,z9,z10,z11,zl⟩:=hq.f7
     have zc:=HS.out.ne
     clear hq
     go_wp2_with fail
     clear z0 z1 z2 z3 z4 z5 z6 z7 z8 z9 z10 z11 zl zc
     refine (rwant_bad HS.out _).mono ?_
     rintro e w22 ⟨rfl,ht9,hs9⟩
     replace HX:=bT HX ht9 NE
     replace HO_r:=Lib.hid (HO_r.out.turned ht9 (row_ne HO_r.out HQ.out))
     replace HZ:=zT HZ ht9
     replace HT:=tT HT ht9
     replace HS:=Lib.hid hs9
     clear ht9 hs9
     go_wp2_with fail
     refine (rnode_bad HS.out 6 _ _ _ _).mono ?_
     rintro e w23 ⟨rfl,ht9,hs9⟩
     replace HX:=bT HX ht9 NE
     replace HO_r:=Lib.hid (HO_r.out.turned ht9 (row_ne HO_r.out HQ.out))
     replace HZ:=zT HZ ht9
     replace HT:=tT HT ht9
     replace HS:=Lib.hid hs9
     clear ht9 hs9
     obtain ⟨u0X,u1X,u2X,u3X,g0X,g1X,g2X,g3X,glX⟩:=HX.out.f4
     go_wp2_with fail
     clear u0X u1X u2X u3X g0X g1X g2X g3X glX
     refine open_post (EndB w E _ _ _) (end_bad HE.out HQ.out HT.out HS.out HX.out (x:=⟨_,_,_,_,_,_⟩)) ?_
     rintro W hE
     obtain ⟨v0,v1,v2,v3,-⟩:=hE.blk.f4
     exact bodyPost_ret (v:=nvA ⟨_,_,_,_,_,_⟩) (by simp [results,Tryz.results70,go_sem,v0,v1,v2,v3]) rfl (hE.done HR.out)
 ·replace HR:=Lib.hid (HR.out.trans (bind_no hr9))
  clear hr9
  replace HX:=bT HX ht9 NE
  replace HO_r:=Lib.hid (HO_r.out.turned ht9 (row_ne HO_r.out HQ.out))
  replace HZ:=zT HZ ht9
  replace HT:=tT HT ht9
  replace HS:=Lib.hid hs9
  clear ht9 hs9
  go_wp2_with fail
  go_loopw [3,4] (fun v u wr => ∃ i : Nat,u = .int .i64 (i : Int) ∧ i ≤ E.L.length + 1 ∧ BInv w E rr (fun a s => (wantP E.L E.e ⟨#[125]⟩ s).bind fun _ s => .ok (.mk 6 ⟨#[]⟩ 0 a.kids) ⟨s.i,s.dep,s.many + 1⟩) .stmtsL f 0 i v wr ∧ ((∃ c p,rr = .no c p) ∨ i ≤ E.L.length)) (fun _ u _ => E.L.length + 2 - (intOf u).toNat)
  case atStart => exact ⟨0,rfl,Nat.zero_le _,⟨HT.out,HZ.out,HX.out,_,_,_,_,rfl,HO_r.out,Nat.le_refl _,.inr ⟨_,_,HR.out,HS.out⟩⟩,.inr (Nat.zero_le _)⟩
  case round =>
   clear HT HZ HX HO_r HR HS
   obtain ⟨i,rfl,hi,⟨ht,hz,hx,A_r,n_r,c_r,xs_r,rfl,ho,hl,hg⟩,hbd⟩:=hrel
   have HT:=Lib.hid ht
   have HZ:=Lib.hid hz
   have HX:=Lib.hid hx
   have HO_r:=Lib.hid ho
   have HL:=Lib.hid hl
   clear ht hz hx ho hl
   have hwi : IntKind.i64.wrap ((i : Int) + 1) = (i : Int) + 1:=IntWalk.i64_in _ (by omega)
   rcases hg with ⟨g,ls_r,s1,hgf,hr,hs,his,ha⟩ | ⟨c1,p1,hr,hs⟩
   ·have HS:=Lib.hid hs
    have HA_r:=Lib.hid ha
    have hil : i ≤ E.L.length:=Nat.le_trans his hs.le
    have HRR:=Lib.hid hr
    have NS:=Lib.hid (sr_ne (w:=w) (v:=.slice A_r n_r c_r) HQ.out)
    cases g with
    | zero => exact absurd (hr.trans rfl) HO.out
    | succ g =>
     simp only [run,tx_rb] at hr
     clear hs ha hbd HRR
     obtain ⟨z0,z1,z2,z3,z4,z5,z6,z7,z8,z9,z10,z11,zl⟩:=HS.out.blk.f7
     cases h1 : seesP E.L ⟨#[125]⟩ s1
     ·rw [if_neg (by rw [h1];decide),bind_assoc] at hr
      have H1:=Lib.hid h1
      have HR:=Lib.hid hr
      clear h1 hr
      go_wp2_with fail
      clear z0 z1 z2 z3 z4 z5 z6 z7 z8 z9 z10 z11 zl
      refine (rsees_is HS.out H1.out).mono ?_
      rintro e w24 ⟨rfl,hb9⟩
      have ht9:=Turned.of_below (fun b => b = E.Q) hb9
      have hs9:=HS.out.below hb9
      clear hb9
      replace HX:=bT HX ht9 NE
      replace HA_r:=Lib.hid (HA_r.out.turned ht9 (sr_ne HQ.out))
      replace HO_r:=Lib.hid (HO_r.out.turned ht9 (row_ne HO_r.out HQ.out))
      replace HZ:=zT HZ ht9
      replace HT:=tT HT ht9
      replace HS:=Lib.hid hs9
      clear ht9 hs9
      go_wp2_with fail
      refine ((ihM g (Nat.le_of_succ_le hgf) E) _ _ HS.out (fun h => HO.out (HR.out.trans (bind_out h)))).mono ?_
      rintro e w25 hq9
      rcases hq9.two (fun h => HO.out (HR.out.trans (bind_out h))) with ⟨n_k,s26,x_k,hr9,rfl,ht9,hs9,hi9⟩ | ⟨c9,p9,x_k,hr9,rfl,ht9,hs9⟩
      ·replace HR:=Lib.hid (HR.out.trans (bind_ok hr9))
       have MO : Hid (s1.i + 1 ≤ s26.i):=by have h:=run_mono _ _ _ _ _ _ _ hr9;simp only [str,] at h;show _ ≤ _;omega
       clear hr9 hq9
       have T_k:=Lib.hid (hi9.weak (S':=(SR w (.slice A_r n_r c_r))) (fun b hb h => ⟨Nat.lt_of_lt_of_le HZ.out h,fun e => Nat.lt_irrefl _ (Nat.lt_of_lt_of_le (HO_r.out.lt _ e).2 h)⟩))
       clear hi9
       replace HX:=bT HX ht9 NE
       replace HA_r:=Lib.hid (HA_r.out.turned ht9 (sr_ne HQ.out))
       replace HO_r:=Lib.hid (HO_r.out.turned ht9 (row_ne HO_r.out HQ.out))
       replace HZ:=zT HZ ht9
       replace HT:=tT HT ht9
       replace HS:=Lib.hid hs9
       clear ht9 hs9
       have NE_k:=nE HQ HZ
       have HB_k:=nB w25 x_k
       obtain ⟨o9,ho9⟩:=oN x_k
       replace HX:=bA HX o9
       replace T_k:=nA T_k o9
       replace HA_r:=Lib.hid (HA_r.out.alloc o9)
       replace HO_r:=oA HO_r o9
       replace HS:=Lib.hid (HS.out.below (bl _ o9))
       replace HT:=tA HT o9
       replace HZ:=zA HZ o9
       have HZ0:=HZ
       have HSZ:=Lib.hid HZ.out
       replace HX:=bA HX o9
       replace HB_k:=bA HB_k o9
       replace T_k:=nA T_k o9
       replace HA_r:=Lib.hid (HA_r.out.alloc o9)
       replace HO_r:=oA HO_r o9
       replace HS:=Lib.hid (HS.out.below (bl _ o9))
       replace HT:=tA HT o9
       replace HZ:=zA HZ o9
       subst ho9
       have LIE:=lN2 w25 x_k
       have BD1 : Hid ((xs_r).length ≤ 1000000):=by have:=HL.out;show _ ≤ _;omega
       have BD2 : Hid ([x_k].length ≤ 1000000):=by show _ ≤ _;simp
       go_wp2_with (at_builtin;refine wpList_joinNd rfl _ _ rfl (w.heap.size + 1) _ _ rfl HO_r.out (some ⟨w25.heap.size + 1,0,none⟩) [x_k] 1 rfl LIE.out BD1.out BD2.out HZ.out ?_;intro A27 n28 c29 w30 hown hgr hpl;have HOWN:=Lib.hid hown;have HGR:=Lib.hid hgr;have HPL:=Lib.hid hpl;clear hown hgr hpl)
       replace HX:=Lib.hid (HX.out.grown HGR.out (row_nw HO_r.out))
       replace HZ:=Lib.hid (Nat.lt_of_lt_of_le HZ.out HGR.out.size)
       replace HT:=Lib.hid (HT.out.grown HGR.out (fun k e => .inr (row_ge HO_r.out k e)))
       have hs9 : RGood _ _ _:=RAt.grown (r:=.ok nd0 _) HS.out HE.out HQ.out HGR.out (row_ge HO_r.out)
       replace HA_r:=Lib.hid (HA_r.out.pushed T_k.out HO_r.out HGR.out HPL.out)
       replace HS:=Lib.hid hs9
       replace HO_r:=HOWN
       clear hs9 LIE HGR HPL HOWN
       have NS:=Lib.hid (sr_ne (w:=w) (v:=.slice A27 n28 c29) HQ.out)
       go_roundw
       case rel => exact ⟨i + 1,by go_num,by omega,⟨HT.out,HZ.out,HX.out,_,_,_,_,rfl,HO_r.out,by have:=HL.out;simp;omega,.inl ⟨g,_,_,Nat.le_of_succ_le hgf,HR.out,HS.out,Nat.le_trans (Nat.succ_le_succ his) MO.out,HA_r.out⟩⟩,.inr (Nat.le_trans (Nat.le_trans (Nat.succ_le_succ his) MO.out) HS.out.le)⟩
       case measure => simp [intOf];omega
      ·replace HR:=Lib.hid (HR.out.trans (bind_no hr9))
       clear hr9 hq9
       replace HX:=bT HX ht9 NE
       replace HO_r:=Lib.hid (HO_r.out.turned ht9 (row_ne HO_r.out HQ.out))
       replace HZ:=zT HZ ht9
       replace HT:=tT HT ht9
       replace HS:=Lib.hid hs9
       clear ht9 hs9
       have NE_k:=nE HQ HZ
       have HB_k:=nB w25 x_k
       obtain ⟨o9,ho9⟩:=oN x_k
       replace HX:=bA HX o9
       replace HO_r:=oA HO_r o9
       replace HS:=Lib.hid (HS.out.below (bl _ o9))
       replace HT:=tA HT o9
       replace HZ:=zA HZ o9
       have HZ0:=HZ
       have HSZ:=Lib.hid HZ.out
       replace HX:=bA HX o9
       replace HB_k:=bA HB_k o9
       replace HO_r:=oA HO_r o9
       replace HS:=Lib.hid (HS.out.below (bl _ o9))
       replace HT:=tA HT o9
       replace HZ:=zA HZ o9
       subst ho9
       have LIE:=lN2 w25 x_k
       have BD1 : Hid ((xs_r).length ≤ 1000000):=by have:=HL.out;show _ ≤ _;omega
       have BD2 : Hid ([x_k].length ≤ 1000000):=by show _ ≤ _;simp
       go_wp2_with (at_builtin;refine wpList_joinNd rfl _ _ rfl (w.heap.size + 1) _ _ rfl HO_r.out (some ⟨w25.heap.size + 1,0,none⟩) [x_k] 1 rfl LIE.out BD1.out BD2.out HZ.out ?_;intro A31 n32 c33 w34 hown hgr hpl;have HOWN:=Lib.hid hown;have HGR:=Lib.hid hgr;have HPL:=Lib.hid hpl;clear hown hgr hpl)
       replace HX:=Lib.hid (HX.out.grown HGR.out (row_nw HO_r.out))
       replace HZ:=Lib.hid (Nat.lt_of_lt_of_le HZ.out HGR.out.size)
       replace HT:=Lib.hid (HT.out.grown HGR.out (fun k e => .inr (row_ge HO_r.out k e)))
       have hs9 : RBad _ _ _ _:=RAt.grown (r:=.no _ _) HS.out HE.out HQ.out HGR.out (row_ge HO_r.out)
       replace HS:=Lib.hid hs9
       replace HO_r:=HOWN
       clear hs9 LIE HGR HPL HOWN
       have NS:=Lib.hid (sr_ne (w:=w) (v:=.slice A31 n32 c33) HQ.out)
       go_roundw
       case rel => exact ⟨i + 1,by go_num,by omega,⟨HT.out,HZ.out,HX.out,_,_,_,_,rfl,HO_r.out,by have:=HL.out;simp;omega,.inr ⟨_,_,HR.out,HS.out⟩⟩,.inl ⟨_,_,HR.out⟩⟩
       case measure => simp [intOf];omega
     ·rw [if_pos h1] at hr
      have H1:=Lib.hid h1
      rw [ok_bind] at hr
      try dsimp only at hr
      have HR:=Lib.hid hr
      clear h1 hr
      go_wp2_with fail
      clear z0 z1 z2 z3 z4 z5 z6 z7 z8 z9 z10 z11 zl
      refine (rsees_is HS.out H1.out).mono ?_
      rintro e w35 ⟨rfl,hb9⟩
      have ht9:=Turned.of_below (fun b => b = E.Q) hb9
      have hs9:=HS.out.below hb9
      clear hb9
      replace HX:=bT HX ht9 NE
      replace HA_r:=Lib.hid (HA_r.out.turned ht9 (sr_ne HQ.out))
      replace HO_r:=Lib.hid (HO_r.out.turned ht9 (row_ne HO_r.out HQ.out))
      replace HZ:=zT HZ ht9
      replace HT:=tT HT ht9
      replace HS:=Lib.hid hs9
      clear ht9 hs9
      go_wp2_with fail
      refine (rwant_two HS.out _).mono ?_
      rintro e w36 ⟨rfl,ht9,(⟨m9,s37,hr9,hs9⟩ | ⟨c9,p9,hr9,hs9⟩)⟩
      ·replace HR:=Lib.hid (HR.out.trans (bind_ok hr9))
       clear hr9
       replace HX:=bT HX ht9 NE
       replace HA_r:=Lib.hid (HA_r.out.turned ht9 (sr_ne HQ.out))
       replace HO_r:=Lib.hid (HO_r.out.turned ht9 (row_ne HO_r.out HQ.out))
       replace HZ:=zT HZ ht9
       replace HT:=tT HT ht9
       replace HS:=Lib.hid hs9
       clear ht9 hs9
       go_wp2_with fail
       obtain ⟨A9,c9,e9,-,hn9⟩:=HO_r.out.nodes (S':=(fun b => w.heap.size < b)) HA_r.out (fun b h => h.1) (row_gt HO_r.out)
       cases e9
       have KN:=Lib.hid hn9
       clear hn9
       refine (rnode_any (r:=.ok nd0 _) 6 _ _ _ _ HS.out).mono ?_
       rintro e w38 ⟨rfl,ht9,hs9⟩
       have hs9 : RGood _ _ _:=hs9 nd0
       replace KN:=Lib.hid (KN.out.kept ht9.size (fun b hb hs => ht9.block b hb (fun e => absurd hs (by have:=HQ.out;omega))) (fun b _ h => h))
       replace HX:=bT HX ht9 NE
       replace HA_r:=Lib.hid (HA_r.out.turned ht9 (sr_ne HQ.out))
       replace HO_r:=Lib.hid (HO_r.out.turned ht9 (row_ne HO_r.out HQ.out))
       replace HZ:=zT HZ ht9
       replace HT:=tT HT ht9
       replace HS:=Lib.hid hs9
       clear ht9 hs9
       obtain ⟨u0X,u1X,u2X,u3X,g0X,g1X,g2X,g3X,glX⟩:=HX.out.f4
       go_wp2_with fail
       clear u0X u1X u2X u3X g0X g1X g2X g3X glX
       refine open_post (EndG w E _ ⟨6,⟨#[]⟩,0,A_r,(ls_r).length,c_r⟩ (.mk 6 ⟨#[]⟩ 0 ls_r)) (end_good HE.out HQ.out HT.out HS.out HX.out (x:=⟨6,⟨#[]⟩,0,A_r,(ls_r).length,c_r⟩) (n:=(.mk 6 ⟨#[]⟩ 0 ls_r)) ⟨⟨rfl,rfl,rfl,rfl⟩,KN.out⟩ (S:=(fun b => w.heap.size < b)) (fun b h => h)) ?_
       rintro W hE
       obtain ⟨v0,v1,v2,v3,-⟩:=hE.blk.f4
       exact bodyPost_ret (v:=nvA ⟨6,⟨#[]⟩,0,A_r,(ls_r).length,c_r⟩) (by simp [results,Tryz.results70,go_sem,v0,v1,v2,v3]) rfl (hE.done HR.out)
      ·replace HR:=Lib.hid (HR.out.trans (bind_no hr9))
       clear hr9
       replace HX:=bT HX ht9 NE
       replace HO_r:=Lib.hid (HO_r.out.turned ht9 (row_ne HO_r.out HQ.out))
       replace HZ:=zT HZ ht9
       replace HT:=tT HT ht9
       replace HS:=Lib.hid hs9
       clear ht9 hs9
       go_wp2_with fail
       refine (rnode_bad HS.out 6 _ _ _ _).mono ?_
       rintro e w39 ⟨rfl,ht9,hs9⟩
       replace HX:=bT HX ht9 NE
       replace HO_r:=Lib.hid (HO_r.out.turned ht9 (row_ne HO_r.out HQ.out))
       replace HZ:=zT HZ ht9
       replace HT:=tT HT ht9
       replace HS:=Lib.hid hs9
       clear ht9 hs9
       obtain ⟨u0X,u1X,u2X,u3X,g0X,g1X,g2X,g3X,glX⟩:=HX.out.f4
       go_wp2_with fail
       clear u0X u1X u2X u3X g0X g1X g2X g3X glX
       refine open_post (EndB w E _ _ _) (end_bad HE.out HQ.out HT.out HS.out HX.out (x:=⟨_,_,_,_,_,_⟩)) ?_
       rintro W hE
       obtain ⟨v0,v1,v2,v3,-⟩:=hE.blk.f4
       exact bodyPost_ret (v:=nvA ⟨_,_,_,_,_,_⟩) (by simp [results,Tryz.results70,go_sem,v0,v1,v2,v3]) rfl (hE.done HR.out)
   ·have HS:=Lib.hid hs
    have HR:=Lib.hid hr
    by_cases hil : i ≤ E.L.length
    ·skip
     clear hs hr hbd
     obtain ⟨zi,zd,zm,hq⟩:=HS.out.blk
     obtain ⟨z0,z1,z2,z3,z4,z5,z6,z7,z8,z9,z10,z11,zl⟩:=hq.f7
     have zc:=HS.out.ne
     clear hq
     go_wp2_with fail
     clear z0 z1 z2 z3 z4 z5 z6 z7 z8 z9 z10 z11 zl zc
     refine (rwant_bad HS.out _).mono ?_
     rintro e w40 ⟨rfl,ht9,hs9⟩
     replace HX:=bT HX ht9 NE
     replace HO_r:=Lib.hid (HO_r.out.turned ht9 (row_ne HO_r.out HQ.out))
     replace HZ:=zT HZ ht9
     replace HT:=tT HT ht9
     replace HS:=Lib.hid hs9
     clear ht9 hs9
     go_wp2_with fail
     refine (rnode_bad HS.out 6 _ _ _ _).mono ?_
     rintro e w41 ⟨rfl,ht9,hs9⟩
     replace HX:=bT HX ht9 NE
     replace HO_r:=Lib.hid (HO_r.out.turned ht9 (row_ne HO_r.out HQ.out))
     replace HZ:=zT HZ ht9
     replace HT:=tT HT ht9
     replace HS:=Lib.hid hs9
     clear ht9 hs9
     obtain ⟨u0X,u1X,u2X,u3X,g0X,g1X,g2X,g3X,glX⟩:=HX.out.f4
     go_wp2_with fail
     clear u0X u1X u2X u3X g0X g1X g2X g3X glX
     refine open_post (EndB w E _ _ _) (end_bad HE.out HQ.out HT.out HS.out HX.out (x:=⟨_,_,_,_,_,_⟩)) ?_
     rintro W hE
     obtain ⟨v0,v1,v2,v3,-⟩:=hE.blk.f4
     exact bodyPost_ret (v:=nvA ⟨_,_,_,_,_,_⟩) (by simp [results,Tryz.results70,go_sem,v0,v1,v2,v3]) rfl (hE.done HR.out)
    ·skip
     clear hs hr hbd
     obtain ⟨zi,zd,zm,hq⟩:=HS.out.blk
     obtain ⟨z0,z1,z2,z3,z4,z5,z6,z7,z8,z9,z10,z11,zl⟩:=hq.f7
     have zc:=HS.out.ne
     clear hq
     go_wp2_with fail
     clear z0 z1 z2 z3 z4 z5 z6 z7 z8 z9 z10 z11 zl zc
     refine (rwant_bad HS.out _).mono ?_
     rintro e w42 ⟨rfl,ht9,hs9⟩
     replace HX:=bT HX ht9 NE
     replace HO_r:=Lib.hid (HO_r.out.turned ht9 (row_ne HO_r.out HQ.out))
     replace HZ:=zT HZ ht9
     replace HT:=tT HT ht9
     replace HS:=Lib.hid hs9
     clear ht9 hs9
     go_wp2_with fail
     refine (rnode_bad HS.out 6 _ _ _ _).mono ?_
     rintro e w43 ⟨rfl,ht9,hs9⟩
     replace HX:=bT HX ht9 NE
     replace HO_r:=Lib.hid (HO_r.out.turned ht9 (row_ne HO_r.out HQ.out))
     replace HZ:=zT HZ ht9
     replace HT:=tT HT ht9
     replace HS:=Lib.hid hs9
     clear ht9 hs9
     obtain ⟨u0X,u1X,u2X,u3X,g0X,g1X,g2X,g3X,glX⟩:=HX.out.f4
     go_wp2_with fail
     clear u0X u1X u2X u3X g0X g1X g2X g3X glX
     refine open_post (EndB w E _ _ _) (end_bad HE.out HQ.out HT.out HS.out HX.out (x:=⟨_,_,_,_,_,_⟩)) ?_
     rintro W hE
     obtain ⟨v0,v1,v2,v3,-⟩:=hE.blk.f4
     exact bodyPost_ret (v:=nvA ⟨_,_,_,_,_,_⟩) (by simp [results,Tryz.results70,go_sem,v0,v1,v2,v3]) rfl (hE.done HR.out)
end Go.Proofs.YtbpldfmmlgkfnaaGreatDoor

namespace Go.Proofs.YtbpldfmmlgkfnaaGreatDoor
open Go.RowKit
set_option linter.unusedVariables false

/-- The parser stands well, what is still to come is K of the names t, u and the nodes ls that lie in the row xs; or it has given up. -/
def ST (E : Env) (rr : Res) (w : World) (K : Nd → Nd → List Nd → PS → Res) (tv uv : ByteArray) (xs : List NV) (S : Nat → Prop) (lo : Nat) : Prop :=
 (∃ t u ls s,rr = K t u ls s ∧ RGood w E s ∧ tv = t.text ∧ uv = u.text ∧ AllN w S xs ls ∧ lo ≤ s.i) ∨ (∃ c p,rr = .no c p ∧ RBad w E c p)
/-- The same, and a node x beside. -/
def ST1 (E : Env) (rr : Res) (w : World) (K : Nd → Nd → List Nd → Nd → PS → Res) (tv uv : ByteArray) (xs : List NV) (x : NV) (S : Nat → Prop) (lo : Nat) : Prop :=
 (∃ t u ls n s,rr = K t u ls n s ∧ RGood w E s ∧ tv = t.text ∧ uv = u.text ∧ AllN w S xs ls ∧ IsN w S x n ∧ lo ≤ s.i) ∨ (∃ c p,rr = .no c p ∧ RBad w E c p)
/-- Well for certain, a token ahead. -/
def STG (E : Env) (rr : Res) (w : World) (K : Nd → Nd → List Nd → PS → Res) (tv uv : ByteArray) (xs : List NV) (S : Nat → Prop) (lo : Nat) : Prop :=
 ∃ t u ls s,rr = K t u ls s ∧ RGood w E s ∧ tv = t.text ∧ uv = u.text ∧ AllN w S xs ls ∧ lo ≤ s.i ∧ s.i < E.L.length
section
variable {E : Env} {rr : Res} {w w' : World} {tv uv : ByteArray} {xs : List NV} {S : Nat → Prop} {lo : Nat}
theorem ST.env {K : Nd → Nd → List Nd → PS → Res} (h : ST E rr w K tv uv xs S lo) : EnvOk w E:=by
 rcases h with ⟨t,u,ls,s,-,h,-⟩ | ⟨c,p,-,h⟩
 ·exact h.env
 ·exact h.env
theorem ST.cells {K : Nd → Nd → List Nd → PS → Res} (h : ST E rr w K tv uv xs S lo) : ∃ i d m c p : Int,Blk w E.Q 96 (rCells E i d m c p):=by
 rcases h with ⟨t,u,ls,s,-,h,-⟩ | ⟨c,p,-,h⟩
 ·exact RAt.cells (r:=.ok nd0 s) h
 ·exact RAt.cells (r:=.no c p) h
/-- A change that keeps the parser and what the row holds. -/
theorem ST.keep {K : Nd → Nd → List Nd → PS → Res} (h : ST E rr w K tv uv xs S lo) (hr : ∀ r,RAt w E r → RAt w' E r) (hz : w.heap.size ≤ w'.heap.size) (hb : ∀ b,b < w.heap.size → S b → w'.heap[b]? = w.heap[b]?) : ST E rr w' K tv uv xs S lo:=by
 rcases h with ⟨t,u,ls,s,h1,h2,h3,h4,h5,hl⟩ | ⟨c,p,h1,h2⟩
 ·exact .inl ⟨t,u,ls,s,h1,hr (.ok nd0 s) h2,h3,h4,h5.kept hz hb (fun b _ h => h),hl⟩
 ·exact .inr ⟨c,p,h1,hr (.no c p) h2⟩
theorem ST.below {K : Nd → Nd → List Nd → PS → Res} (h : ST E rr w K tv uv xs S lo) (hb : Below w.heap.size w w') : ST E rr w' K tv uv xs S lo:=h.keep (fun r hr => hr.below hb) hb.size (fun b hlt _ => hb.block b hlt)
theorem ST1.keep {K : Nd → Nd → List Nd → Nd → PS → Res} {x : NV} (h : ST1 E rr w K tv uv xs x S lo) (hr : ∀ r,RAt w E r → RAt w' E r) (hz : w.heap.size ≤ w'.heap.size) (hb : ∀ b,b < w.heap.size → S b → w'.heap[b]? = w.heap[b]?) : ST1 E rr w' K tv uv xs x S lo:=by
 rcases h with ⟨t,u,ls,n,s,h1,h2,h3,h4,h5,h6,hl⟩ | ⟨c,p,h1,h2⟩
 ·exact .inl ⟨t,u,ls,n,s,h1,hr (.ok nd0 s) h2,h3,h4,h5.kept hz hb (fun b _ h => h),h6.kept hz hb (fun b _ h => h),hl⟩
 ·exact .inr ⟨c,p,h1,hr (.no c p) h2⟩
theorem ST1.below {K : Nd → Nd → List Nd → Nd → PS → Res} {x : NV} (h : ST1 E rr w K tv uv xs x S lo) (hb : Below w.heap.size w w') : ST1 E rr w' K tv uv xs x S lo:=h.keep (fun r hr => hr.below hb) hb.size (fun b hlt _ => hb.block b hlt)
variable (hS : ∀ b,S b → ¬ b = E.Q)
include hS
theorem st_want {K : Nd → Nd → List Nd → PS → Res} (x : ByteArray) (h : ST E rr w (fun t u ls s => (wantP E.L E.e x s).bind fun _ s => K t u ls s) tv uv xs S lo) :
  Calls Tryz.prog 69 #[.pointer (some ⟨E.Q,0,none⟩),.string x] w fun e w' => e = .returned (.tuple #[]) ∧ Turned w w' (fun b => b = E.Q) ∧ ST E rr w' K tv uv xs S (lo + 1):=by
 rcases h with ⟨t,u,ls,s,h1,h2,h3,h4,h5,hl⟩ | ⟨c,p,h1,h2⟩
 ·refine (rwant_two h2 x).mono ?_
  rintro e w' ⟨he,ht,⟨m,s',hr,hs⟩ | ⟨c,p,hr,hs⟩⟩
  ·exact ⟨he,ht,.inl ⟨t,u,ls,s',h1.trans (bind_ok hr),hs,h3,h4,h5.turned ht hS,Nat.le_trans (Nat.succ_le_succ hl) (mo_want _ _ hr)⟩⟩
  ·exact ⟨he,ht,.inr ⟨c,p,h1.trans (bind_no hr),hs⟩⟩
 ·exact (rwant_bad h2 x).mono fun e w' ⟨he,ht,hs⟩ => ⟨he,ht,.inr ⟨c,p,h1,hs⟩⟩
theorem st_name1 {K : Nd → Nd → List Nd → PS → Res} (h : ST E rr w (fun _ u ls s => (nameP E.L E.e s).bind fun t s => K t u ls s) tv uv xs S lo) :
  Calls Tryz.prog 95 #[.pointer (some ⟨E.Q,0,none⟩)] w fun e w' => ∃ t,e = .returned (.string t) ∧ Turned w w' (fun b => b = E.Q) ∧ ST E rr w' K t uv xs S (lo + 1):=by
 rcases h with ⟨t,u,ls,s,h1,h2,h3,h4,h5,hl⟩ | ⟨c,p,h1,h2⟩
 ·refine (rname_two h2).mono ?_
  rintro e w' ⟨ht,⟨t',s',hr,he,hs⟩ | ⟨c,p,hr,he,hs⟩⟩
  ·exact ⟨_,he,ht,.inl ⟨t',u,ls,s',h1.trans (bind_ok hr),hs,rfl,h4,h5.turned ht hS,Nat.le_trans (Nat.succ_le_succ hl) (mo_name _ _ hr)⟩⟩
  ·exact ⟨_,he,ht,.inr ⟨c,p,h1.trans (bind_no hr),hs⟩⟩
 ·exact (rname_bad h2).mono fun e w' ⟨he,ht,hs⟩ => ⟨_,he,ht,.inr ⟨c,p,h1,hs⟩⟩
theorem st_name2 {K : Nd → Nd → List Nd → PS → Res} (h : ST E rr w (fun t _ ls s => (nameP E.L E.e s).bind fun u s => K t u ls s) tv uv xs S lo) :
  Calls Tryz.prog 95 #[.pointer (some ⟨E.Q,0,none⟩)] w fun e w' => ∃ u,e = .returned (.string u) ∧ Turned w w' (fun b => b = E.Q) ∧ ST E rr w' K tv u xs S (lo + 1):=by
 rcases h with ⟨t,u,ls,s,h1,h2,h3,h4,h5,hl⟩ | ⟨c,p,h1,h2⟩
 ·refine (rname_two h2).mono ?_
  rintro e w' ⟨ht,⟨t',s',hr,he,hs⟩ | ⟨c,p,hr,he,hs⟩⟩
  ·exact ⟨_,he,ht,.inl ⟨t,t',ls,s',h1.trans (bind_ok hr),hs,h3,rfl,h5.turned ht hS,Nat.le_trans (Nat.succ_le_succ hl) (mo_name _ _ hr)⟩⟩
  ·exact ⟨_,he,ht,.inr ⟨c,p,h1.trans (bind_no hr),hs⟩⟩
 ·exact (rname_bad h2).mono fun e w' ⟨he,ht,hs⟩ => ⟨_,he,ht,.inr ⟨c,p,h1,hs⟩⟩
theorem st_node {K : Nd → Nd → List Nd → PS → Res} (k : Int) (t : ByteArray) (a : Option Addr) (len cap : Nat) (h : ST E rr w (fun t u ls s => K t u ls ⟨s.i,s.dep,s.many + 1⟩) tv uv xs S lo) :
  Calls Tryz.prog 71 #[.pointer (some ⟨E.Q,0,none⟩),.int .i64 k,.string t,.slice a len cap] w fun e w' => e = .returned (.agg #[.int .i64 k,.string t,.int .i64 0,.slice a len cap]) ∧ Turned w w' (fun b => b = E.Q) ∧ ST E rr w' K tv uv xs S lo:=by
 rcases h with ⟨t,u,ls,s,h1,h2,h3,h4,h5,hl⟩ | ⟨c,p,h1,h2⟩
 ·exact (rnode_any (r:=.ok nd0 s) k _ a len cap h2).mono fun e w' ⟨he,ht,hs⟩ => ⟨he,ht,.inl ⟨t,u,ls,_,h1,hs nd0,h3,h4,h5.turned ht hS,hl⟩⟩
 ·exact (rnode_bad h2 k _ a len cap).mono fun e w' ⟨he,ht,hs⟩ => ⟨he,ht,.inr ⟨c,p,h1,hs⟩⟩
theorem st_sees {A B : Nd → Nd → List Nd → PS → Res} (x : ByteArray) (h : ST E rr w (fun t u ls s => if seesP E.L x s = true then A t u ls s else B t u ls s) tv uv xs S lo) :
  Calls Tryz.prog 67 #[.pointer (some ⟨E.Q,0,none⟩),.string x] w fun e w' => ∃ b,e = .returned (.bool b) ∧ Turned w w' (fun b => b = E.Q) ∧ (b = true → STG E rr w' A tv uv xs S lo) ∧ (b = false → ST E rr w' B tv uv xs S lo):=by
 rcases h with ⟨t,u,ls,s,h1,h2,h3,h4,h5,hl⟩ | ⟨c,p,h1,h2⟩
 ·cases hb : seesP E.L x s with
  | true =>
   dsimp only at h1
   rw [if_pos hb] at h1
   refine (rsees_is h2 hb).mono fun e w' ⟨he,hbl⟩ => ⟨true,he,Turned.of_below _ hbl,fun _ => ⟨t,u,ls,s,h1,h2.below hbl,h3,h4,h5.turned (Turned.of_below (fun b => b = E.Q) hbl) hS,hl,sees_lt hb⟩,fun h => by cases h⟩
  | false =>
   dsimp only at h1
   rw [if_neg (by rw [hb];decide)] at h1
   refine (rsees_is h2 hb).mono fun e w' ⟨he,hbl⟩ => ⟨false,he,Turned.of_below _ hbl,(fun h => by cases h),fun _ => .inl ⟨t,u,ls,s,h1,h2.below hbl,h3,h4,h5.turned (Turned.of_below (fun b => b = E.Q) hbl) hS,hl⟩⟩
 ·exact (rsees_bad x h2).mono fun e w' ⟨he,hbl⟩ => ⟨false,he,Turned.of_below _ hbl,(fun h => by cases h),fun _ => .inr ⟨c,p,h1,h2.below hbl⟩⟩
theorem st_call {K : Nd → Nd → List Nd → Nd → PS → Res} {f : Nat} {c : Cmd} {fn : FuncId} (ih : RCall f c fn) (bd : RFlat fn) (ho : rr ≠ .out) (hsub : ∀ b,w.heap.size ≤ b → S b) (h : ST E rr w (fun t u ls s => (run E.L E.e f c s).bind fun n s => K t u ls n s) tv uv xs S lo) :
  Calls Tryz.prog fn #[.pointer (some ⟨E.Q,0,none⟩)] w fun e w' => ∃ x,e = .returned (nvA x) ∧ Turned w w' (fun b => b = E.Q) ∧ ST1 E rr w' K tv uv xs x S lo:=by
 rcases h with ⟨t,u,ls,s,h1,h2,h3,h4,h5,hl⟩ | ⟨c,p,h1,h2⟩
 ·have ho2 : run E.L E.e f c s ≠ .out:=fun hx => ho (h1.trans (bind_out hx))
  refine (ih E s w h2 ho2).mono fun e w' hq => ?_
  rcases hq.two ho2 with ⟨n,s',x,hr,he,ht,hs,hi⟩ | ⟨c,p,x,hr,he,ht,hs⟩
  ·exact ⟨x,he,ht,.inl ⟨t,u,ls,n,s',h1.trans (bind_ok hr),hs,h3,h4,h5.turned ht hS,hi.weak (fun b _ hb => hsub b hb),Nat.le_trans hl (Nat.le_trans (Nat.le_add_right _ _) (run_mono _ _ _ _ _ _ _ hr))⟩⟩
  ·exact ⟨x,he,ht,.inr ⟨c,p,h1.trans (bind_no hr),hs⟩⟩
 ·exact (bd E c p w h2).mono fun e w' ⟨x,he,ht,hs,_⟩ => ⟨x,he,ht,.inr ⟨c,p,h1,hs⟩⟩
end
theorem ST.nil {E : Env} {rr : Res} {w : World} {K K' : Nd → Nd → List Nd → PS → Res} {tv uv : ByteArray} {S : Nat → Prop} {lo : Nat} (h : ST E rr w K tv uv [] S lo) (hk : ∀ t u s,K t u [] s = K' t u [] s) : ST E rr w K' tv uv [] S lo:=by
 rcases h with ⟨t,u,ls,s,h1,h2,h3,h4,h5,hl⟩ | ⟨c,p,h1,h2⟩
 ·have hls : ls = []:=List.eq_nil_of_length_eq_zero (by have:=h5.1;simpa using this.symm)
  subst hls
  exact .inl ⟨t,u,[],s,h1.trans (hk t u s),h2,h3,h4,h5,hl⟩
 ·exact .inr ⟨c,p,h1,h2⟩
/-- Well for certain. -/
def STO (E : Env) (rr : Res) (w : World) (K : Nd → Nd → List Nd → PS → Res) (tv uv : ByteArray) (xs : List NV) (S : Nat → Prop) (lo : Nat) : Prop :=
 ∃ t u ls s,rr = K t u ls s ∧ RGood w E s ∧ tv = t.text ∧ uv = u.text ∧ AllN w S xs ls ∧ lo ≤ s.i
theorem STO.st {E : Env} {rr : Res} {w : World} {K : Nd → Nd → List Nd → PS → Res} {tv uv : ByteArray} {xs : List NV} {S : Nat → Prop} {lo : Nat} (h : STO E rr w K tv uv xs S lo) : ST E rr w K tv uv xs S lo:=.inl h
theorem STO.below {E : Env} {rr : Res} {w w' : World} {K : Nd → Nd → List Nd → PS → Res} {tv uv : ByteArray} {xs : List NV} {S : Nat → Prop} {lo : Nat} (h : STO E rr w K tv uv xs S lo) (hb : Below w.heap.size w w') : STO E rr w' K tv uv xs S lo:=by
 obtain ⟨t,u,ls,s,h1,h2,h3,h4,h5,hl⟩:=h
 exact ⟨t,u,ls,s,h1,h2.below hb,h3,h4,h5.kept hb.size (fun b hlt _ => hb.block b hlt) (fun b _ h => h),hl⟩
/-- What is stepped over. -/
theorem STG.step {E : Env} {rr : Res} {w : World} {K : Nd → Nd → List Nd → PS → Res} {tv uv : ByteArray} {xs : List NV} {S : Nat → Prop} {lo : Nat} (h : STG E rr w (fun t u ls s => K t u ls (stepP s)) tv uv xs S lo) (hS : ∀ b,S b → ¬ b = E.Q) :
  ∃ i : Nat,lo ≤ i ∧ i < E.L.length ∧ E.L.length ≤ 4000 ∧ (∃ d m : Int,Blk w E.Q 96 (rCells E (i : Nat) d m 0 0)) ∧ STO E rr (w.setCell ⟨E.Q,2,none⟩ (.int .i64 ((i : Int) + 1))) K tv uv xs S (lo + 1) ∧ Turned w (w.setCell ⟨E.Q,2,none⟩ (.int .i64 ((i : Int) + 1))) (fun b => b = E.Q):=by
 obtain ⟨t,u,ls,s,h1,h2,h3,h4,h5,hl,h6⟩:=h
 obtain ⟨hs,ht⟩:=h2.step h6
 exact ⟨s.i,hl,h6,h2.env.few,⟨_,_,h2.blk⟩,⟨t,u,ls,_,h1,hs,h3,h4,h5.turned ht hS,Nat.succ_le_succ hl⟩,ht⟩
theorem sto_call {E : Env} {rr : Res} {w : World} {tv uv : ByteArray} {xs : List NV} {S : Nat → Prop} {lo : Nat} (hS : ∀ b,S b → ¬ b = E.Q) {K : Nd → Nd → List Nd → Nd → PS → Res} {f : Nat} {c : Cmd} {fn : FuncId} (ih : RCall f c fn) (ho : rr ≠ .out) (hsub : ∀ b,w.heap.size ≤ b → S b) (h : STO E rr w (fun t u ls s => (run E.L E.e f c s).bind fun n s => K t u ls n s) tv uv xs S lo) :
  Calls Tryz.prog fn #[.pointer (some ⟨E.Q,0,none⟩)] w fun e w' => ∃ x,e = .returned (nvA x) ∧ Turned w w' (fun b => b = E.Q) ∧ ST1 E rr w' K tv uv xs x S lo:=by
 obtain ⟨t,u,ls,s,h1,h2,h3,h4,h5,hl⟩:=h
 have ho2 : run E.L E.e f c s ≠ .out:=fun hx => ho (h1.trans (bind_out hx))
 refine (ih E s w h2 ho2).mono fun e w' hq => ?_
 rcases hq.two ho2 with ⟨n,s',x,hr,he,ht,hs,hi⟩ | ⟨c,p,x,hr,he,ht,hs⟩
 ·exact ⟨x,he,ht,.inl ⟨t,u,ls,n,s',h1.trans (bind_ok hr),hs,h3,h4,h5.turned ht hS,hi.weak (fun b _ hb => hsub b hb),Nat.le_trans hl (Nat.le_trans (Nat.le_add_right _ _) (run_mono _ _ _ _ _ _ _ hr))⟩⟩
 ·exact ⟨x,he,ht,.inr ⟨c,p,h1.trans (bind_no hr),hs⟩⟩
/-- Where fuel is out the parser has given up: whatever comes. -/
theorem ST.out {E : Env} {rr : Res} {w : World} {K K' : Nd → Nd → List Nd → PS → Res} {tv uv : ByteArray} {xs : List NV} {S : Nat → Prop} {lo : Nat} (ho : rr ≠ .out) (hk : ∀ t u ls s,K t u ls s = .out) (h : ST E rr w K tv uv xs S lo) : ST E rr w K' tv uv xs S lo:=by
 rcases h with ⟨t,u,ls,s,h1,-⟩ | ⟨c,p,h1,h2⟩
 ·exact absurd (h1.trans (hk t u ls s)) ho
 ·exact .inr ⟨c,p,h1,h2⟩
theorem ST.congr {E : Env} {rr : Res} {w : World} {K K' : Nd → Nd → List Nd → PS → Res} {tv uv : ByteArray} {xs : List NV} {S : Nat → Prop} {lo : Nat} (hk : ∀ t u ls s,K t u ls s = K' t u ls s) (h : ST E rr w K tv uv xs S lo) : ST E rr w K' tv uv xs S lo:=by
 have : K = K':=by funext t u ls s;exact hk t u ls s
 rwa [← this]
theorem ST1.congr {E : Env} {rr : Res} {w : World} {K K' : Nd → Nd → List Nd → Nd → PS → Res} {tv uv : ByteArray} {xs : List NV} {x : NV} {S : Nat → Prop} {lo : Nat} (hk : ∀ t u ls n s,K t u ls n s = K' t u ls n s) (h : ST1 E rr w K tv uv xs x S lo) : ST1 E rr w K' tv uv xs x S lo:=by
 have : K = K':=by funext t u ls n s;exact hk t u ls n s
 rwa [← this]
/-- A node of the row, made and stored as the result. -/
theorem st_end {w W W2 : World} {E : Env} {rr : Res} {tv uv : ByteArray} {xs : List NV} {lo : Nat} {A : Option Addr} {n c : Nat} {kd : Int} {tx : ByteArray} {nm : Int} {u0 u1 u2 u3 : Value} (h0 : EnvOk w E) (hQ : E.Q < w.heap.size) (ht : Turned w W (fun b => b = E.Q)) (ho : OwnN W (w.heap.size + 1) (.slice A n c) xs)
  (hx : Blk W w.heap.size 24 #[u0,u1,u2,u3]) (T : Nd → ByteArray) (hT : ∀ t : Nd,tv = t.text → T t = tx) (N : List Nd → Int) (hN : ∀ ls : List Nd,xs.length = ls.length → N ls = nm) (h : ST E rr W (fun t u ls s => .ok (.mk kd (T t) (N ls) ls) s) tv uv xs (SR w (.slice A n c)) lo)
  (hW2 : W2 = ((((W.setCell ⟨w.heap.size,0,none⟩ (.int .i64 kd)).setCell ⟨w.heap.size,1,none⟩ (.string tx)).setCell ⟨w.heap.size,2,none⟩ (.int .i64 nm)).setCell ⟨w.heap.size,3,none⟩ (.slice A n c))) :
  Blk W2 w.heap.size 24 #[.int .i64 kd,.string tx,.int .i64 nm,.slice A n c] ∧ REnd E rr w (.returned (.agg #[.int .i64 kd,.string tx,.int .i64 nm,.slice A n c])) W2:=by
 subst hW2
 rcases h with ⟨t,u,ls,s,h1,h2,h3,h4,h5,hl⟩ | ⟨c1,p,h1,h2⟩
 ·obtain ⟨A9,c9,e9,-,hn9⟩:=ho.nodes (S':=fun b => w.heap.size < b) h5 (fun b h => h.1) (row_gt ho)
  cases e9
  have hE:=end_good (x:=⟨kd,tx,nm,A,ls.length,c⟩) (n:=.mk kd (T t) (N ls) ls) (S:=fun b => w.heap.size < b) h0 hQ ht h2 hx ⟨⟨rfl,(hT t h3).symm,(hN ls h5.1).symm,rfl⟩,hn9⟩ (fun b h => h)
  exact ⟨hE.blk,hE.done h1⟩
 ·have hE:=end_bad (x:=⟨kd,tx,nm,A,n,c⟩) h0 hQ ht h2 hx
  exact ⟨hE.blk,hE.done h1⟩
/-- What was made is put behind the row. -/
theorem ST1.push {w0 : World} {E : Env} {rr : Res} {w w' : World} {K : Nd → Nd → List Nd → PS → Res} {tv uv : ByteArray} {xs : List NV} {x : NV} {v v' : Value} {lo : Nat} (h : ST1 E rr w (fun t u ls n s => K t u (ls ++ [n]) s) tv uv xs x (SR w0 v) lo) (h0 : EnvOk w0 E) (hQ : E.Q < w0.heap.size) (ho : OwnN w (w0.heap.size + 1) v xs) (hg : w.grownBy w' v.ownBlock)
  (hp : ∀ k,v'.ownBlock = some k → v.ownBlock = some k ∨ k = w.heap.size) : ST E rr w' K tv uv (xs ++ [x]) (SR w0 v') lo:=by
 rcases h with ⟨t,u,ls,n,s,h1,h2,h3,h4,h5,h6,hl⟩ | ⟨c,p,h1,h2⟩
 ·exact .inl ⟨t,u,_,s,h1,RAt.grown (r:=.ok nd0 s) h2 h0 hQ hg (row_ge ho),h3,h4,h5.pushed h6 ho hg hp,hl⟩
 ·exact .inr ⟨c,p,h1,RAt.grown (r:=.no c p) h2 h0 hQ hg (row_ge ho)⟩
/-- A leaf that was made is a node beside. -/
theorem ST.leaf {E : Env} {rr : Res} {w : World} {K : Nd → Nd → List Nd → Nd → PS → Res} {tv uv : ByteArray} {xs : List NV} {S : Nat → Prop} {lo : Nat} (k : Int) (c : Nat) (h : ST E rr w (fun t u ls s => K t u ls (.mk k u.text 0 []) s) tv uv xs S lo) : ST1 E rr w K tv uv xs ⟨k,uv,0,none,0,c⟩ S lo:=by
 rcases h with ⟨t,u,ls,s,h1,h2,h3,h4,h5,hl⟩ | ⟨c,p,h1,h2⟩
 ·exact .inl ⟨t,u,ls,_,s,h1,h2,h3,h4,h5,⟨⟨rfl,h4,rfl,rfl⟩,.nil _⟩,hl⟩
 ·exact .inr ⟨c,p,h1,h2⟩
end Go.Proofs.YtbpldfmmlgkfnaaGreatDoor
