/- The document's parser: methods. The document's parser: classes. Conditions: as each theorem says. -/
import Derived.Test.YtbpldfmmlgkfnaaGreatDoorEMemZ
import Derived.Test.YtbpldfmmlgkfnaaGreatDoorERpS
namespace Go.Proofs.YtbpldfmmlgkfnaaGreatDoor
open Go.RowKit
set_option linter.unusedVariables false
theorem STG.st {E : Env} {rr : Res} {w : World} {K : Nd → Nd → List Nd → PS → Res} {tv uv : ByteArray} {xs : List NV} {S : Nat → Prop} {lo : Nat} (h : STG E rr w K tv uv xs S lo) : ST E rr w K tv uv xs S lo:=by
 obtain ⟨t,u,ls,s,h1,h2,h3,h4,h5,hl,h6⟩:=h
 exact .inl ⟨t,u,ls,s,h1,h2,h3,h4,h5,hl⟩
theorem ST.low {E : Env} {rr : Res} {w : World} {K : Nd → Nd → List Nd → PS → Res} {tv uv : ByteArray} {xs : List NV} {S : Nat → Prop} {lo lo2 : Nat} (h : ST E rr w K tv uv xs S lo) (hl2 : lo2 ≤ lo) : ST E rr w K tv uv xs S lo2:=by
 rcases h with ⟨t,u,ls,s,h1,h2,h3,h4,h5,hl⟩ | h
 ·exact .inl ⟨t,u,ls,s,h1,h2,h3,h4,h5,Nat.le_trans hl2 hl⟩
 ·exact .inr h
theorem STO.cells {E : Env} {rr : Res} {w : World} {K : Nd → Nd → List Nd → PS → Res} {tv uv : ByteArray} {xs : List NV} {S : Nat → Prop} {lo : Nat} (h : STO E rr w K tv uv xs S lo) : ∃ i d m : Int,Blk w E.Q 96 (rCells E i d m 0 0):=by
 obtain ⟨t,u,ls,s,h1,h2,-⟩:=h
 exact ⟨_,_,_,h2.blk⟩
theorem STO.congr {E : Env} {rr : Res} {w : World} {K K' : Nd → Nd → List Nd → PS → Res} {tv uv : ByteArray} {xs : List NV} {S : Nat → Prop} {lo : Nat} (hk : ∀ t u ls s,K t u ls s = K' t u ls s) (h : STO E rr w K tv uv xs S lo) : STO E rr w K' tv uv xs S lo:=by
 have : K = K':=by funext t u ls s;exact hk t u ls s
 rwa [← this]
theorem REnd.alloc {E : Env} {r : Res} {w W : World} {e : Ending} (h : REnd E r w e W) (o : Obj) : REnd E r w e (W.alloc o):=by
 obtain ⟨x,h1,h2,h3,h4⟩:=h
 exact ⟨x,h1,h2.alloc o,h3.below ((Below.refl _ _).alloc (Nat.le_refl _) o),fun n s hr => (h4 n s hr).alloc o⟩
def methK (E : Env) (f : Nat) (t a : Nd) (s : PS) : Res:=(wantP E.L E.e ⟨#[41]⟩ s).bind fun _ s => (run E.L E.e f .block s).bind fun b s => .ok (.mk 4 t.text (a.kids.length : Nat) (a.kids ++ [b])) ⟨s.i,s.dep,s.many + 1⟩
def MInv (w : World) (E : Env) (rr : Res) (f i : Nat) (q : Bool) (v : Value) (tv : ByteArray) (wr : World) : Prop :=
 Turned w wr (fun b => b = E.Q) ∧ w.heap.size < wr.heap.size ∧ Blk wr w.heap.size 24 #[.int .i64 0,.string ⟨#[]⟩,.int .i64 0,.slice none 0 0] ∧
  ∃ A n c xs uv,v = .slice A n c ∧ OwnN wr (w.heap.size + 1) (.slice A n c) xs ∧ xs.length ≤ i ∧ (q = true → ST E rr wr (fun t u ls s => methK E f t (ndL ls) s) tv uv xs (SR w (.slice A n c)) i) ∧
   (q = false → ∃ g,g ≤ f ∧ ST E rr wr (fun t u ls s => (run E.L E.e g (.parmsL ls) s).bind (methK E f t)) tv uv xs (SR w (.slice A n c)) i)
theorem parm_open {E : Env} {rr : Res} {w : World} {tv uv : ByteArray} {xs : List NV} {S : Nat → Prop} {i f g : Nat} (ho : rr ≠ .out) (hg : g ≤ f) (h : STO E rr w (fun t u ls s => (run E.L E.e g (.parmsL ls) s).bind (methK E f t)) tv uv xs S i) :
  ∃ g',g' ≤ f ∧ STO E rr w (fun t u ls s => (nameP E.L E.e s).bind fun u s => (fun t (u : Nd) ls (n : Nd) s => if seesP E.L ⟨#[44]⟩ s = true then (run E.L E.e g' (.parmsL (ls ++ [n])) (stepP s)).bind (methK E f t) else methK E f t (ndL (ls ++ [n])) s) t u ls (.mk 5 u.text 0 []) ⟨s.i,s.dep,s.many + 1⟩) tv uv xs S i:=by
 cases g with
 | zero =>
  obtain ⟨t,u,ls,s,h1,-⟩:=h
  exact absurd h1 ho
 | succ g =>
  refine ⟨g,Nat.le_of_succ_le hg,h.congr (fun t u ls s => ?_)⟩
  simp only [run,tx_com,nodeP,bind_assoc]
  cases nameP E.L E.e s with
  | no c p => rfl
  | out => rfl
  | ok n s =>
   simp only [ok_bind]
   split <;> rfl
theorem ndl_kids (l : List Nd) : (ndL l).kids = l:=rfl

set_option maxRecDepth 100000 in
set_option maxHeartbeats 1600000 in
theorem rmethod_any {f : Nat} (ihB : RCall f .block 70) (bdB : RFlat 70) {E : Env} {s : PS} {w : World} (h : RGood w E s) (hout : run E.L E.e (f + 1) .meth s ≠ .out) : Calls Tryz.prog 96 #[.pointer (some ⟨E.Q,0,none⟩)] w (REnd E (run E.L E.e (f + 1) .meth s) w):=by
 have hE : RAt w E (.ok nd0 s):=h
 have HO0:=Lib.hid hout
 generalize hrr : run E.L E.e (f + 1) .meth s = rr at *
 have hr : rr = (fun (_ u : Nd) (ls : List Nd) s => (nameP E.L E.e s).bind fun t s => (wantP E.L E.e ⟨#[40]⟩ s).bind fun _ s => (if seesP E.L ⟨#[41]⟩ s = true then Res.ok (ndL []) s else run E.L E.e f (.parmsL []) s).bind (methK E f t)) nd0 nd0 [] s:=by rw [← hrr];simp only [run,nodeP,tx_lp,tx_rp];rfl
 clear hrr hout
 have HE:=Lib.hid hE.env
 have HQ:=Lib.hid hE.old
 have NE : Hid (¬ w.heap.size = E.Q):=by have:=hE.old;show ¬ _;omega
 have hfew:=h.env.few
 obtain ⟨o9,ho9⟩:=oZ
 have hb0:=bl w o9
 have HT:=Lib.hid (Turned.of_below (fun b => b = E.Q) hb0)
 have HX:=zB w
 have HZ:=zN w o9
 have HO:=Lib.hid (OwnN.nil (w.alloc o9) (w.heap.size + 1))
 subst ho9
 have HST : Hid (ST E rr (w.alloc (.cells #[.int .i64 0,.string ⟨#[]⟩,.int .i64 0,.slice none 0 0] 24)) (fun (_ u : Nd) (ls : List Nd) s => (nameP E.L E.e s).bind fun t s => (wantP E.L E.e ⟨#[40]⟩ s).bind fun _ s => (if seesP E.L ⟨#[41]⟩ s = true then Res.ok (ndL []) s else run E.L E.e f (.parmsL []) s).bind (methK E f t)) ByteArray.empty ByteArray.empty [] (SR w (.slice none 0 0)) 0):=ST.below (K:=(fun (_ u : Nd) (ls : List Nd) s => (nameP E.L E.e s).bind fun t s => (wantP E.L E.e ⟨#[40]⟩ s).bind fun _ s => (if seesP E.L ⟨#[41]⟩ s = true then Res.ok (ndL []) s else run E.L E.e f (.parmsL []) s).bind (methK E f t))) (.inl ⟨nd0,nd0,[],s,hr,h,rfl,rfl,AllN.nil _ _,Nat.zero_le _⟩) hb0
 clear h hE hb0 hr
 go_enter Tryz.func96,Tryz.ntmps96
 go_wp2_with fail
 generalize (w.alloc (.cells #[.int .i64 0,.string ⟨#[]⟩,.int .i64 0,.slice none 0 0] 24)) = w1 at *
 refine (st_name1 (sr_ne HQ.out) HST.out).mono ?_
 rintro e w2 ⟨t,rfl,ht9,hst9⟩
 replace HX:=bT HX ht9 NE
 replace HO:=Lib.hid (HO.out.turned ht9 (row_ne HO.out HQ.out))
 replace HZ:=zT HZ ht9
 replace HT:=tT HT ht9
 replace HST:=Lib.hid hst9
 clear ht9 hst9
 go_wp2_with fail
 refine (st_want (sr_ne HQ.out) _ HST.out).mono ?_
 rintro e w3 ⟨rfl,ht9,hst9⟩
 replace HX:=bT HX ht9 NE
 replace HO:=Lib.hid (HO.out.turned ht9 (row_ne HO.out HQ.out))
 replace HZ:=zT HZ ht9
 replace HT:=tT HT ht9
 replace HST:=Lib.hid hst9
 clear ht9 hst9
 have HNIL : Hid (ST E rr _ (fun t u ls s => if seesP E.L ⟨#[41]⟩ s = true then methK E f t (ndL ls) s else (run E.L E.e f (.parmsL ls) s).bind (methK E f t)) _ _ _ _ _):=ST.nil (K:=fun t (u : Nd) (ls : List Nd) s => (if seesP E.L ⟨#[41]⟩ s = true then Res.ok (ndL []) s else run E.L E.e f (.parmsL []) s).bind (methK E f t)) HST.out (fun t u s => by split <;> rfl)
 replace HST:=HNIL
 clear HNIL
 go_wp2_with fail
 refine (st_sees (sr_ne HQ.out) _ HST.out).mono ?_
 rintro e w4 ⟨b9,rfl,ht9,hy9,hn9⟩
 replace HX:=bT HX ht9 NE
 replace HO:=Lib.hid (HO.out.turned ht9 (row_ne HO.out HQ.out))
 replace HZ:=zT HZ ht9
 replace HT:=tT HT ht9
 clear ht9 HST
 cases b9
 ·have HST:=Lib.hid (hn9 rfl)
  clear hy9 hn9
  go_wp2_with fail
  go_loopw [4,5,6] (fun v b u wr => ∃ (i : Nat) (q : Bool),u = .int .i64 (i : Int) ∧ b = .bool q ∧ i ≤ E.L.length ∧ MInv w E rr f i q v t wr) (fun _ _ u _ => E.L.length + 1 - (intOf u).toNat)
  case atStart => exact ⟨0,false,rfl,rfl,Nat.zero_le _,HT.out,HZ.out,HX.out,_,_,_,_,_,rfl,HO.out,Nat.le_refl _,(fun h => by cases h),(fun _ => ⟨f,Nat.le_refl _,HST.out.low (Nat.zero_le _)⟩)⟩
  case round =>
   clear HT HZ HX HO HST
   obtain ⟨i,q,rfl,rfl,hi,ht,hz,hx,A_r,n_r,c_r,xs_r,uv,rfl,ho,hl,hst1,hst2⟩:=hrel
   have HT:=Lib.hid ht
   have HZ:=Lib.hid hz
   have HX:=Lib.hid hx
   have HO:=Lib.hid ho
   have HL:=Lib.hid hl
   clear ht hz hx ho hl
   have hwi : IntKind.i64.wrap ((i : Int) + 1) = (i : Int) + 1:=IntWalk.i64_in _ (by omega)
   cases q
   ·obtain ⟨g0,hg0,hst⟩:=hst2 rfl
    clear hst1 hst2
    rcases hst with hst | ⟨c1,p1,hr1,hs1⟩
    ·obtain ⟨g,hgf,hst⟩:=parm_open HO0.out hg0 hst
     have HST:=Lib.hid hst
     obtain ⟨i8,d8,m8,hq8⟩:=hst.cells
     obtain ⟨z0,z1,z2,z3,z4,z5,z6,z7,z8,z9,z10,z11,zl⟩:=hq8.f7
     clear hst hq8 hg0
     replace HST:=Lib.hid HST.out.st
     go_wp2_with fail
     clear z0 z1 z2 z3 z4 z5 z6 z7 z8 z9 z10 z11 zl
     refine (st_name2 (sr_ne HQ.out) HST.out).mono ?_
     rintro e w5 ⟨u2,rfl,ht9,hst9⟩
     replace HX:=bT HX ht9 NE
     replace HO:=Lib.hid (HO.out.turned ht9 (row_ne HO.out HQ.out))
     replace HZ:=zT HZ ht9
     replace HT:=tT HT ht9
     replace HST:=Lib.hid hst9
     clear ht9 hst9
     go_wp2_with fail
     replace HST : Hid (ST E rr _ (fun t u ls s => (fun t u ls s => ((fun t (u : Nd) ls (n : Nd) s => if seesP E.L ⟨#[44]⟩ s = true then (run E.L E.e g (.parmsL (ls ++ [n])) (stepP s)).bind (methK E f t) else methK E f t (ndL (ls ++ [n])) s)) t u ls (.mk 5 u.text 0 []) s) t u ls ⟨s.i,s.dep,s.many + 1⟩) _ _ _ _ _):=HST.out
     refine (st_node (sr_ne HQ.out) 5 _ _ _ _ HST.out).mono ?_
     rintro e w6 ⟨rfl,ht9,hst9⟩
     replace HX:=bT HX ht9 NE
     replace HO:=Lib.hid (HO.out.turned ht9 (row_ne HO.out HQ.out))
     replace HZ:=zT HZ ht9
     replace HT:=tT HT ht9
     replace HST:=Lib.hid hst9
     clear ht9 hst9
     replace HST:=Lib.hid (ST.leaf (K:=(fun t (u : Nd) ls (n : Nd) s => if seesP E.L ⟨#[44]⟩ s = true then (run E.L E.e g (.parmsL (ls ++ [n])) (stepP s)).bind (methK E f t) else methK E f t (ndL (ls ++ [n])) s)) 5 0 HST.out)
     obtain ⟨o9,ho9⟩ : ∃ o : Obj,o = (.cells #[.int .i64 5,.string u2,.int .i64 0,.slice none 0 0] 24):=⟨_,rfl⟩
     replace HX:=bA HX o9
     replace HO:=oA HO o9
     replace HST:=Lib.hid (HST.out.below (bl _ o9))
     replace HT:=tA HT o9
     replace HZ:=zA HZ o9
     have HZ0:=HZ
     replace HX:=bA HX o9
     replace HO:=oA HO o9
     replace HST:=Lib.hid (HST.out.below (bl _ o9))
     replace HT:=tA HT o9
     replace HZ:=zA HZ o9
     subst ho9
     have LIE : Hid (LieN (World.alloc (World.alloc w6 (.cells #[.int .i64 5,.string u2,.int .i64 0,.slice none 0 0] 24)) (.cells #[.int .i64 5,.string u2,.int .i64 0,.slice none 0 0] 24)) (some ⟨w6.heap.size + 1,0,none⟩) [(⟨5,u2,0,none,0,0⟩ : NV)]):=by have h:=lie_new (World.alloc w6 (.cells #[.int .i64 5,.string u2,.int .i64 0,.slice none 0 0] 24)) [(⟨5,u2,0,none,0,0⟩ : NV)] #[.int .i64 5,.string u2,.int .i64 0,.slice none 0 0] 24 rfl;rw [World.size_alloc] at h;exact h
     have BD1 : Hid ((xs_r).length ≤ 1000000):=by have:=HL.out;show _ ≤ _;omega
     have BD2 : Hid ([(⟨5,u2,0,none,0,0⟩ : NV)].length ≤ 1000000):=by show _ ≤ _;simp
     go_wp2_with (at_builtin;refine wpList_joinNd rfl _ _ rfl (w.heap.size + 1) _ _ rfl HO.out (some ⟨w6.heap.size + 1,0,none⟩) [(⟨5,u2,0,none,0,0⟩ : NV)] 1 rfl LIE.out BD1.out BD2.out HZ.out ?_;intro A7 n8 c9 w10 hown hgr hpl;have HOWN:=Lib.hid hown;have HGR:=Lib.hid hgr;have HPL:=Lib.hid hpl;clear hown hgr hpl)
     replace HX:=Lib.hid (HX.out.grown HGR.out (row_nw HO.out))
     replace HZ:=Lib.hid (Nat.lt_of_lt_of_le HZ.out HGR.out.size)
     replace HT:=Lib.hid (HT.out.grown HGR.out (fun k e => .inr (row_ge HO.out k e)))
     replace HST:=Lib.hid (ST1.push (K:=(fun t (u : Nd) ls s => if seesP E.L ⟨#[44]⟩ s = true then (run E.L E.e g (.parmsL ls) (stepP s)).bind (methK E f t) else methK E f t (ndL ls) s)) HST.out HE.out HQ.out HO.out HGR.out HPL.out)
     replace HO:=HOWN
     clear LIE HGR HPL HOWN
     refine (st_sees (sr_ne HQ.out) _ HST.out).mono ?_
     rintro e w11 ⟨b9,rfl,ht9,hy9,hn9⟩
     replace HX:=bT HX ht9 NE
     replace HO:=Lib.hid (HO.out.turned ht9 (row_ne HO.out HQ.out))
     replace HZ:=zT HZ ht9
     replace HT:=tT HT ht9
     clear ht9 HST
     cases b9
     ·have HST:=Lib.hid (hn9 rfl)
      clear hy9 hn9
      replace HST : Hid (ST E rr _ (fun t (u : Nd) ls s => (wantP E.L E.e ⟨#[41]⟩ s).bind fun _ s => (run E.L E.e f .block s).bind fun b s => Res.ok (.mk 4 t.text (ls.length : Nat) (ls ++ [b])) ⟨s.i,s.dep,s.many + 1⟩) _ _ _ _ _):=HST.out
      go_wp2_with fail
      refine (st_want (sr_ne HQ.out) _ HST.out).mono ?_
      rintro e w12 ⟨rfl,ht9,hst9⟩
      replace HX:=bT HX ht9 NE
      replace HO:=Lib.hid (HO.out.turned ht9 (row_ne HO.out HQ.out))
      replace HZ:=zT HZ ht9
      replace HT:=tT HT ht9
      replace HST:=Lib.hid hst9
      clear ht9 hst9
      go_wp2_with fail
      refine (st_call (sr_ne HQ.out) ihB bdB HO0.out (fun b hb => ⟨Nat.lt_of_lt_of_le HZ.out hb,fun e => Nat.lt_irrefl _ (Nat.lt_of_lt_of_le (HO.out.lt _ e).2 hb)⟩) HST.out).mono ?_
      rintro e w13 ⟨x_b,rfl,ht9,hst9⟩
      replace HX:=bT HX ht9 NE
      replace HO:=Lib.hid (HO.out.turned ht9 (row_ne HO.out HQ.out))
      replace HZ:=zT HZ ht9
      replace HT:=tT HT ht9
      replace HST:=Lib.hid hst9
      clear ht9 hst9
      obtain ⟨o9,ho9⟩:=oN x_b
      replace HX:=bA HX o9
      replace HO:=oA HO o9
      replace HST:=Lib.hid (HST.out.below (bl _ o9))
      replace HT:=tA HT o9
      replace HZ:=zA HZ o9
      subst ho9
      replace HST:=Lib.hid (ST1.congr (K':=fun t u ls n s => (fun t (u : Nd) ls s => Res.ok (.mk 4 t.text ((ls.length - 1 : Nat) : Int) ls) ⟨s.i,s.dep,s.many + 1⟩) t u (ls ++ [n]) s) (fun t u ls n s => by simp) HST.out)
      have HN : Hid (n8 = ((xs_r ++ [(⟨5,u2,0,none,0,0⟩ : NV)])).length):=by obtain ⟨A9,c9,e9,-⟩:=HO.out.form;cases e9;rfl
      have HZ0:=HZ
      obtain ⟨o9,ho9⟩:=oN x_b
      replace HX:=bA HX o9
      replace HO:=oA HO o9
      replace HST:=Lib.hid (HST.out.below (bl _ o9))
      replace HT:=tA HT o9
      replace HZ:=zA HZ o9
      subst ho9
      have LIE:=lN2 w13 x_b
      have BD1 : Hid (((xs_r ++ [(⟨5,u2,0,none,0,0⟩ : NV)])).length ≤ 1000000):=by have:=HL.out;show _ ≤ _;(try simp only [List.length_append,List.length_cons,List.length_nil]);omega
      have BD2 : Hid ([x_b].length ≤ 1000000):=by show _ ≤ _;simp
      go_wp2_with (at_builtin;refine wpList_joinNd rfl _ _ rfl (w.heap.size + 1) _ _ rfl HO.out (some ⟨w13.heap.size + 1,0,none⟩) [x_b] 1 rfl LIE.out BD1.out BD2.out HZ.out ?_;intro A14 n15 c16 w17 hown hgr hpl;have HOWN:=Lib.hid hown;have HGR:=Lib.hid hgr;have HPL:=Lib.hid hpl;clear hown hgr hpl)
      replace HX:=Lib.hid (HX.out.grown HGR.out (row_nw HO.out))
      replace HZ:=Lib.hid (Nat.lt_of_lt_of_le HZ.out HGR.out.size)
      replace HT:=Lib.hid (HT.out.grown HGR.out (fun k e => .inr (row_ge HO.out k e)))
      replace HST:=Lib.hid (ST1.push (K:=(fun t (u : Nd) ls s => Res.ok (.mk 4 t.text ((ls.length - 1 : Nat) : Int) ls) ⟨s.i,s.dep,s.many + 1⟩)) HST.out HE.out HQ.out HO.out HGR.out HPL.out)
      replace HO:=HOWN
      clear LIE HGR HPL HOWN
      replace HST : Hid (ST E rr _ (fun t u ls s => (fun t (u : Nd) ls s => Res.ok (.mk 4 t.text ((ls.length - 1 : Nat) : Int) ls) s) t u ls ⟨s.i,s.dep,s.many + 1⟩) _ _ _ _ _):=HST.out
      refine (st_node (sr_ne HQ.out) 4 _ _ _ _ HST.out).mono ?_
      rintro e w18 ⟨rfl,ht9,hst9⟩
      replace HX:=bT HX ht9 NE
      replace HO:=Lib.hid (HO.out.turned ht9 (row_ne HO.out HQ.out))
      replace HZ:=zT HZ ht9
      replace HT:=tT HT ht9
      replace HST:=Lib.hid hst9
      clear ht9 hst9
      obtain ⟨u0,u1,u2,u3,g0,g1,g2,g3,gl⟩:=HX.out.f4
      go_wp2_with fail
      clear u0 u1 u2 u3 g0 g1 g2 g3 gl
      have HEND:=Lib.hid (st_end HE.out HQ.out HT.out HO.out HX.out (fun t => t.text) (fun _ h => h.symm) (fun ls => ((ls.length - 1 : Nat) : Int)) (fun ls h => by rw [← h,List.length_append,List.length_singleton,Nat.add_sub_cancel,← HN.out]) HST.out rfl)
      refine open_post (fun W => Blk W w.heap.size 24 #[.int .i64 4,.string t,.int .i64 (n8 : Nat),.slice A14 n15 c16] ∧ REnd E rr w (.returned (.agg #[.int .i64 4,.string t,.int .i64 (n8 : Nat),.slice A14 n15 c16])) W) ⟨HEND.out.1.alloc (.cells #[.int .i64 4,.string t,.int .i64 (n8 : Nat),.slice A14 n15 c16] 24),HEND.out.2.alloc (.cells #[.int .i64 4,.string t,.int .i64 (n8 : Nat),.slice A14 n15 c16] 24)⟩ ?_
      rintro W ⟨hb,hE⟩
      obtain ⟨v0,v1,v2,v3,-⟩:=hb.f4
      exact bodyPost_ret (v:=.agg #[.int .i64 4,.string t,.int .i64 (n8 : Nat),.slice A14 n15 c16]) (by simp [results,Tryz.results96,go_sem,v0,v1,v2,v3]) rfl hE
     ·have HST:=Lib.hid (hy9 rfl)
      clear hy9 hn9
      obtain ⟨i9,hlo9,hi9,hfw9,⟨d9,m9,hq9⟩,hst9,ht9⟩:=STG.step (K:=(fun t u ls s => (run E.L E.e g (.parmsL ls) s).bind (methK E f t))) HST.out (sr_ne HQ.out)
      have hw9 : IntKind.i64.wrap ((i9 : Int) + 1) = (i9 : Int) + 1:=IntWalk.i64_in _ (by omega)
      obtain ⟨z0,z1,z2,z3,z4,z5,z6,z7,z8,z9,z10,z11,zl⟩:=hq9.f7
      replace HX:=bT HX ht9 NE
      replace HO:=Lib.hid (HO.out.turned ht9 (row_ne HO.out HQ.out))
      replace HZ:=zT HZ ht9
      replace HT:=tT HT ht9
      replace HST:=Lib.hid hst9
      clear ht9 hst9
      replace HST:=Lib.hid HST.out.st
      go_wp2_with fail
      clear z0 z1 z2 z3 z4 z5 z6 z7 z8 z9 z10 z11 zl hw9
      go_roundw
      case rel => exact ⟨i + 1,false,by go_num,rfl,by omega,HT.out,HZ.out,HX.out,_,_,_,_,_,rfl,HO.out,by have:=HL.out;simp;omega,(fun h => by cases h),(fun _ => ⟨g,hgf,HST.out.low (by omega)⟩)⟩
      case measure => simp [intOf];omega
    ·have HST : Hid (ST E rr wr (fun t u ls s => methK E f t (ndL ls) s) t uv xs_r (SR w (.slice A_r n_r c_r)) i):=.inr ⟨c1,p1,hr1,hs1⟩
     obtain ⟨i8,d8,m8,hq8⟩:=hs1.blk
     obtain ⟨z0,z1,z2,z3,z4,z5,z6,z7,z8,z9,z10,z11,zl⟩:=hq8.f7
     have hc8:=hs1.ne
     clear hq8 hr1 hs1
     replace HST : Hid (ST E rr _ (fun t (u : Nd) ls s => (wantP E.L E.e ⟨#[41]⟩ s).bind fun _ s => (run E.L E.e f .block s).bind fun b s => Res.ok (.mk 4 t.text (ls.length : Nat) (ls ++ [b])) ⟨s.i,s.dep,s.many + 1⟩) _ _ _ _ _):=HST.out
     go_wp2_with fail
     clear z0 z1 z2 z3 z4 z5 z6 z7 z8 z9 z10 z11 zl hc8
     refine (st_want (sr_ne HQ.out) _ HST.out).mono ?_
     rintro e w19 ⟨rfl,ht9,hst9⟩
     replace HX:=bT HX ht9 NE
     replace HO:=Lib.hid (HO.out.turned ht9 (row_ne HO.out HQ.out))
     replace HZ:=zT HZ ht9
     replace HT:=tT HT ht9
     replace HST:=Lib.hid hst9
     clear ht9 hst9
     go_wp2_with fail
     refine (st_call (sr_ne HQ.out) ihB bdB HO0.out (fun b hb => ⟨Nat.lt_of_lt_of_le HZ.out hb,fun e => Nat.lt_irrefl _ (Nat.lt_of_lt_of_le (HO.out.lt _ e).2 hb)⟩) HST.out).mono ?_
     rintro e w20 ⟨x_b,rfl,ht9,hst9⟩
     replace HX:=bT HX ht9 NE
     replace HO:=Lib.hid (HO.out.turned ht9 (row_ne HO.out HQ.out))
     replace HZ:=zT HZ ht9
     replace HT:=tT HT ht9
     replace HST:=Lib.hid hst9
     clear ht9 hst9
     obtain ⟨o9,ho9⟩:=oN x_b
     replace HX:=bA HX o9
     replace HO:=oA HO o9
     replace HST:=Lib.hid (HST.out.below (bl _ o9))
     replace HT:=tA HT o9
     replace HZ:=zA HZ o9
     subst ho9
     replace HST:=Lib.hid (ST1.congr (K':=fun t u ls n s => (fun t (u : Nd) ls s => Res.ok (.mk 4 t.text ((ls.length - 1 : Nat) : Int) ls) ⟨s.i,s.dep,s.many + 1⟩) t u (ls ++ [n]) s) (fun t u ls n s => by simp) HST.out)
     have HN : Hid (n_r = (xs_r).length):=by obtain ⟨A9,c9,e9,-⟩:=HO.out.form;cases e9;rfl
     have HZ0:=HZ
     obtain ⟨o9,ho9⟩:=oN x_b
     replace HX:=bA HX o9
     replace HO:=oA HO o9
     replace HST:=Lib.hid (HST.out.below (bl _ o9))
     replace HT:=tA HT o9
     replace HZ:=zA HZ o9
     subst ho9
     have LIE:=lN2 w20 x_b
     have BD1 : Hid ((xs_r).length ≤ 1000000):=by have:=HL.out;show _ ≤ _;(try simp only [List.length_append,List.length_cons,List.length_nil]);omega
     have BD2 : Hid ([x_b].length ≤ 1000000):=by show _ ≤ _;simp
     go_wp2_with (at_builtin;refine wpList_joinNd rfl _ _ rfl (w.heap.size + 1) _ _ rfl HO.out (some ⟨w20.heap.size + 1,0,none⟩) [x_b] 1 rfl LIE.out BD1.out BD2.out HZ.out ?_;intro A21 n22 c23 w24 hown hgr hpl;have HOWN:=Lib.hid hown;have HGR:=Lib.hid hgr;have HPL:=Lib.hid hpl;clear hown hgr hpl)
     replace HX:=Lib.hid (HX.out.grown HGR.out (row_nw HO.out))
     replace HZ:=Lib.hid (Nat.lt_of_lt_of_le HZ.out HGR.out.size)
     replace HT:=Lib.hid (HT.out.grown HGR.out (fun k e => .inr (row_ge HO.out k e)))
     replace HST:=Lib.hid (ST1.push (K:=(fun t (u : Nd) ls s => Res.ok (.mk 4 t.text ((ls.length - 1 : Nat) : Int) ls) ⟨s.i,s.dep,s.many + 1⟩)) HST.out HE.out HQ.out HO.out HGR.out HPL.out)
     replace HO:=HOWN
     clear LIE HGR HPL HOWN
     replace HST : Hid (ST E rr _ (fun t u ls s => (fun t (u : Nd) ls s => Res.ok (.mk 4 t.text ((ls.length - 1 : Nat) : Int) ls) s) t u ls ⟨s.i,s.dep,s.many + 1⟩) _ _ _ _ _):=HST.out
     refine (st_node (sr_ne HQ.out) 4 _ _ _ _ HST.out).mono ?_
     rintro e w25 ⟨rfl,ht9,hst9⟩
     replace HX:=bT HX ht9 NE
     replace HO:=Lib.hid (HO.out.turned ht9 (row_ne HO.out HQ.out))
     replace HZ:=zT HZ ht9
     replace HT:=tT HT ht9
     replace HST:=Lib.hid hst9
     clear ht9 hst9
     obtain ⟨u0,u1,u2,u3,g0,g1,g2,g3,gl⟩:=HX.out.f4
     go_wp2_with fail
     clear u0 u1 u2 u3 g0 g1 g2 g3 gl
     have HEND:=Lib.hid (st_end HE.out HQ.out HT.out HO.out HX.out (fun t => t.text) (fun _ h => h.symm) (fun ls => ((ls.length - 1 : Nat) : Int)) (fun ls h => by rw [← h,List.length_append,List.length_singleton,Nat.add_sub_cancel,← HN.out]) HST.out rfl)
     refine open_post (fun W => Blk W w.heap.size 24 #[.int .i64 4,.string t,.int .i64 (n_r : Nat),.slice A21 n22 c23] ∧ REnd E rr w (.returned (.agg #[.int .i64 4,.string t,.int .i64 (n_r : Nat),.slice A21 n22 c23])) W) ⟨HEND.out.1.alloc (.cells #[.int .i64 4,.string t,.int .i64 (n_r : Nat),.slice A21 n22 c23] 24),HEND.out.2.alloc (.cells #[.int .i64 4,.string t,.int .i64 (n_r : Nat),.slice A21 n22 c23] 24)⟩ ?_
     rintro W ⟨hb,hE⟩
     obtain ⟨v0,v1,v2,v3,-⟩:=hb.f4
     exact bodyPost_ret (v:=.agg #[.int .i64 4,.string t,.int .i64 (n_r : Nat),.slice A21 n22 c23]) (by simp [results,Tryz.results96,go_sem,v0,v1,v2,v3]) rfl hE
   ·have HST:=Lib.hid (hst1 rfl)
    clear hst1 hst2
    obtain ⟨i8,d8,m8,c8,p8,hq8⟩:=HST.out.cells
    obtain ⟨z0,z1,z2,z3,z4,z5,z6,z7,z8,z9,z10,z11,zl⟩:=hq8.f7
    replace HST : Hid (ST E rr _ (fun t (u : Nd) ls s => (wantP E.L E.e ⟨#[41]⟩ s).bind fun _ s => (run E.L E.e f .block s).bind fun b s => Res.ok (.mk 4 t.text (ls.length : Nat) (ls ++ [b])) ⟨s.i,s.dep,s.many + 1⟩) _ _ _ _ _):=HST.out
    go_wp2_with fail
    clear z0 z1 z2 z3 z4 z5 z6 z7 z8 z9 z10 z11 zl hq8
    refine (st_want (sr_ne HQ.out) _ HST.out).mono ?_
    rintro e w26 ⟨rfl,ht9,hst9⟩
    replace HX:=bT HX ht9 NE
    replace HO:=Lib.hid (HO.out.turned ht9 (row_ne HO.out HQ.out))
    replace HZ:=zT HZ ht9
    replace HT:=tT HT ht9
    replace HST:=Lib.hid hst9
    clear ht9 hst9
    go_wp2_with fail
    refine (st_call (sr_ne HQ.out) ihB bdB HO0.out (fun b hb => ⟨Nat.lt_of_lt_of_le HZ.out hb,fun e => Nat.lt_irrefl _ (Nat.lt_of_lt_of_le (HO.out.lt _ e).2 hb)⟩) HST.out).mono ?_
    rintro e w27 ⟨x_b,rfl,ht9,hst9⟩
    replace HX:=bT HX ht9 NE
    replace HO:=Lib.hid (HO.out.turned ht9 (row_ne HO.out HQ.out))
    replace HZ:=zT HZ ht9
    replace HT:=tT HT ht9
    replace HST:=Lib.hid hst9
    clear ht9 hst9
    obtain ⟨o9,ho9⟩:=oN x_b
    replace HX:=bA HX o9
    replace HO:=oA HO o9
    replace HST:=Lib.hid (HST.out.below (bl _ o9))
    replace HT:=tA HT o9
    replace HZ:=zA HZ o9
    subst ho9
    replace HST:=Lib.hid (ST1.congr (K':=fun t u ls n s => (fun t (u : Nd) ls s => Res.ok (.mk 4 t.text ((ls.length - 1 : Nat) : Int) ls) ⟨s.i,s.dep,s.many + 1⟩) t u (ls ++ [n]) s) (fun t u ls n s => by simp) HST.out)
    have HN : Hid (n_r = (xs_r).length):=by obtain ⟨A9,c9,e9,-⟩:=HO.out.form;cases e9;rfl
    have HZ0:=HZ
    obtain ⟨o9,ho9⟩:=oN x_b
    replace HX:=bA HX o9
    replace HO:=oA HO o9
    replace HST:=Lib.hid (HST.out.below (bl _ o9))
    replace HT:=tA HT o9
    replace HZ:=zA HZ o9
    subst ho9
    have LIE:=lN2 w27 x_b
    have BD1 : Hid ((xs_r).length ≤ 1000000):=by have:=HL.out;show _ ≤ _;(try simp only [List.length_append,List.length_cons,List.length_nil]);omega
    have BD2 : Hid ([x_b].length ≤ 1000000):=by show _ ≤ _;simp
    go_wp2_with (at_builtin;refine wpList_joinNd rfl _ _ rfl (w.heap.size + 1) _ _ rfl HO.out (some ⟨w27.heap.size + 1,0,none⟩) [x_b] 1 rfl LIE.out BD1.out BD2.out HZ.out ?_;intro A28 n29 c30 w31 hown hgr hpl;have HOWN:=Lib.hid hown;have HGR:=Lib.hid hgr;have HPL:=Lib.hid hpl;clear hown hgr hpl)
    replace HX:=Lib.hid (HX.out.grown HGR.out (row_nw HO.out))
    replace HZ:=Lib.hid (Nat.lt_of_lt_of_le HZ.out HGR.out.size)
    replace HT:=Lib.hid (HT.out.grown HGR.out (fun k e => .inr (row_ge HO.out k e)))
    replace HST:=Lib.hid (ST1.push (K:=(fun t (u : Nd) ls s => Res.ok (.mk 4 t.text ((ls.length - 1 : Nat) : Int) ls) ⟨s.i,s.dep,s.many + 1⟩)) HST.out HE.out HQ.out HO.out HGR.out HPL.out)
    replace HO:=HOWN
    clear LIE HGR HPL HOWN
    replace HST : Hid (ST E rr _ (fun t u ls s => (fun t (u : Nd) ls s => Res.ok (.mk 4 t.text ((ls.length - 1 : Nat) : Int) ls) s) t u ls ⟨s.i,s.dep,s.many + 1⟩) _ _ _ _ _):=HST.out
    refine (st_node (sr_ne HQ.out) 4 _ _ _ _ HST.out).mono ?_
    rintro e w32 ⟨rfl,ht9,hst9⟩
    replace HX:=bT HX ht9 NE
    replace HO:=Lib.hid (HO.out.turned ht9 (row_ne HO.out HQ.out))
    replace HZ:=zT HZ ht9
    replace HT:=tT HT ht9
    replace HST:=Lib.hid hst9
    clear ht9 hst9
    obtain ⟨u0,u1,u2,u3,g0,g1,g2,g3,gl⟩:=HX.out.f4
    go_wp2_with fail
    clear u0 u1 u2 u3 g0 g1 g2 g3 gl
    have HEND:=Lib.hid (st_end HE.out HQ.out HT.out HO.out HX.out (fun t => t.text) (fun _ h => h.symm) (fun ls => ((ls.length - 1 : Nat) : Int)) (fun ls h => by rw [← h,List.length_append,List.length_singleton,Nat.add_sub_cancel,← HN.out]) HST.out rfl)
    refine open_post (fun W => Blk W w.heap.size 24 #[.int .i64 4,.string t,.int .i64 (n_r : Nat),.slice A28 n29 c30] ∧ REnd E rr w (.returned (.agg #[.int .i64 4,.string t,.int .i64 (n_r : Nat),.slice A28 n29 c30])) W) ⟨HEND.out.1.alloc (.cells #[.int .i64 4,.string t,.int .i64 (n_r : Nat),.slice A28 n29 c30] 24),HEND.out.2.alloc (.cells #[.int .i64 4,.string t,.int .i64 (n_r : Nat),.slice A28 n29 c30] 24)⟩ ?_
    rintro W ⟨hb,hE⟩
    obtain ⟨v0,v1,v2,v3,-⟩:=hb.f4
    exact bodyPost_ret (v:=.agg #[.int .i64 4,.string t,.int .i64 (n_r : Nat),.slice A28 n29 c30]) (by simp [results,Tryz.results96,go_sem,v0,v1,v2,v3]) rfl hE
 ·have HST:=Lib.hid (hy9 rfl)
  clear hy9 hn9
  replace HST:=Lib.hid HST.out.st
  go_wp2_with fail
  go_loopw [4,5,6] (fun v b u wr => ∃ (i : Nat) (q : Bool),u = .int .i64 (i : Int) ∧ b = .bool q ∧ i ≤ E.L.length ∧ MInv w E rr f i q v t wr) (fun _ _ u _ => E.L.length + 1 - (intOf u).toNat)
  case atStart => exact ⟨0,true,rfl,rfl,Nat.zero_le _,HT.out,HZ.out,HX.out,_,_,_,_,_,rfl,HO.out,Nat.le_refl _,(fun _ => HST.out.low (Nat.zero_le _)),(fun h => by cases h)⟩
  case round =>
   clear HT HZ HX HO HST
   obtain ⟨i,q,rfl,rfl,hi,ht,hz,hx,A_r,n_r,c_r,xs_r,uv,rfl,ho,hl,hst1,hst2⟩:=hrel
   have HT:=Lib.hid ht
   have HZ:=Lib.hid hz
   have HX:=Lib.hid hx
   have HO:=Lib.hid ho
   have HL:=Lib.hid hl
   clear ht hz hx ho hl
   have hwi : IntKind.i64.wrap ((i : Int) + 1) = (i : Int) + 1:=IntWalk.i64_in _ (by omega)
   cases q
   ·obtain ⟨g0,hg0,hst⟩:=hst2 rfl
    clear hst1 hst2
    rcases hst with hst | ⟨c1,p1,hr1,hs1⟩
    ·obtain ⟨g,hgf,hst⟩:=parm_open HO0.out hg0 hst
     have HST:=Lib.hid hst
     obtain ⟨i8,d8,m8,hq8⟩:=hst.cells
     obtain ⟨z0,z1,z2,z3,z4,z5,z6,z7,z8,z9,z10,z11,zl⟩:=hq8.f7
     clear hst hq8 hg0
     replace HST:=Lib.hid HST.out.st
     go_wp2_with fail
     clear z0 z1 z2 z3 z4 z5 z6 z7 z8 z9 z10 z11 zl
     refine (st_name2 (sr_ne HQ.out) HST.out).mono ?_
     rintro e w33 ⟨u2,rfl,ht9,hst9⟩
     replace HX:=bT HX ht9 NE
     replace HO:=Lib.hid (HO.out.turned ht9 (row_ne HO.out HQ.out))
     replace HZ:=zT HZ ht9
     replace HT:=tT HT ht9
     replace HST:=Lib.hid hst9
     clear ht9 hst9
     go_wp2_with fail
     replace HST : Hid (ST E rr _ (fun t u ls s => (fun t u ls s => ((fun t (u : Nd) ls (n : Nd) s => if seesP E.L ⟨#[44]⟩ s = true then (run E.L E.e g (.parmsL (ls ++ [n])) (stepP s)).bind (methK E f t) else methK E f t (ndL (ls ++ [n])) s)) t u ls (.mk 5 u.text 0 []) s) t u ls ⟨s.i,s.dep,s.many + 1⟩) _ _ _ _ _):=HST.out
     refine (st_node (sr_ne HQ.out) 5 _ _ _ _ HST.out).mono ?_
     rintro e w34 ⟨rfl,ht9,hst9⟩
     replace HX:=bT HX ht9 NE
     replace HO:=Lib.hid (HO.out.turned ht9 (row_ne HO.out HQ.out))
     replace HZ:=zT HZ ht9
     replace HT:=tT HT ht9
     replace HST:=Lib.hid hst9
     clear ht9 hst9
     replace HST:=Lib.hid (ST.leaf (K:=(fun t (u : Nd) ls (n : Nd) s => if seesP E.L ⟨#[44]⟩ s = true then (run E.L E.e g (.parmsL (ls ++ [n])) (stepP s)).bind (methK E f t) else methK E f t (ndL (ls ++ [n])) s)) 5 0 HST.out)
     obtain ⟨o9,ho9⟩ : ∃ o : Obj,o = (.cells #[.int .i64 5,.string u2,.int .i64 0,.slice none 0 0] 24):=⟨_,rfl⟩
     replace HX:=bA HX o9
     replace HO:=oA HO o9
     replace HST:=Lib.hid (HST.out.below (bl _ o9))
     replace HT:=tA HT o9
     replace HZ:=zA HZ o9
     have HZ0:=HZ
     replace HX:=bA HX o9
     replace HO:=oA HO o9
     replace HST:=Lib.hid (HST.out.below (bl _ o9))
     replace HT:=tA HT o9
     replace HZ:=zA HZ o9
     subst ho9
     have LIE : Hid (LieN (World.alloc (World.alloc w34 (.cells #[.int .i64 5,.string u2,.int .i64 0,.slice none 0 0] 24)) (.cells #[.int .i64 5,.string u2,.int .i64 0,.slice none 0 0] 24)) (some ⟨w34.heap.size + 1,0,none⟩) [(⟨5,u2,0,none,0,0⟩ : NV)]):=by have h:=lie_new (World.alloc w34 (.cells #[.int .i64 5,.string u2,.int .i64 0,.slice none 0 0] 24)) [(⟨5,u2,0,none,0,0⟩ : NV)] #[.int .i64 5,.string u2,.int .i64 0,.slice none 0 0] 24 rfl;rw [World.size_alloc] at h;exact h
     have BD1 : Hid ((xs_r).length ≤ 1000000):=by have:=HL.out;show _ ≤ _;omega
     have BD2 : Hid ([(⟨5,u2,0,none,0,0⟩ : NV)].length ≤ 1000000):=by show _ ≤ _;simp
     go_wp2_with (at_builtin;refine wpList_joinNd rfl _ _ rfl (w.heap.size + 1) _ _ rfl HO.out (some ⟨w34.heap.size + 1,0,none⟩) [(⟨5,u2,0,none,0,0⟩ : NV)] 1 rfl LIE.out BD1.out BD2.out HZ.out ?_;intro A35 n36 c37 w38 hown hgr hpl;have HOWN:=Lib.hid hown;have HGR:=Lib.hid hgr;have HPL:=Lib.hid hpl;clear hown hgr hpl)
     replace HX:=Lib.hid (HX.out.grown HGR.out (row_nw HO.out))
     replace HZ:=Lib.hid (Nat.lt_of_lt_of_le HZ.out HGR.out.size)
     replace HT:=Lib.hid (HT.out.grown HGR.out (fun k e => .inr (row_ge HO.out k e)))
     replace HST:=Lib.hid (ST1.push (K:=(fun t (u : Nd) ls s => if seesP E.L ⟨#[44]⟩ s = true then (run E.L E.e g (.parmsL ls) (stepP s)).bind (methK E f t) else methK E f t (ndL ls) s)) HST.out HE.out HQ.out HO.out HGR.out HPL.out)
     replace HO:=HOWN
     clear LIE HGR HPL HOWN
     refine (st_sees (sr_ne HQ.out) _ HST.out).mono ?_
     rintro e w39 ⟨b9,rfl,ht9,hy9,hn9⟩
     replace HX:=bT HX ht9 NE
     replace HO:=Lib.hid (HO.out.turned ht9 (row_ne HO.out HQ.out))
     replace HZ:=zT HZ ht9
     replace HT:=tT HT ht9
     clear ht9 HST
     cases b9
     ·have HST:=Lib.hid (hn9 rfl)
      clear hy9 hn9
      replace HST : Hid (ST E rr _ (fun t (u : Nd) ls s => (wantP E.L E.e ⟨#[41]⟩ s).bind fun _ s => (run E.L E.e f .block s).bind fun b s => Res.ok (.mk 4 t.text (ls.length : Nat) (ls ++ [b])) ⟨s.i,s.dep,s.many + 1⟩) _ _ _ _ _):=HST.out
      go_wp2_with fail
      refine (st_want (sr_ne HQ.out) _ HST.out).mono ?_
      rintro e w40 ⟨rfl,ht9,hst9⟩
      replace HX:=bT HX ht9 NE
      replace HO:=Lib.hid (HO.out.turned ht9 (row_ne HO.out HQ.out))
      replace HZ:=zT HZ ht9
      replace HT:=tT HT ht9
      replace HST:=Lib.hid hst9
      clear ht9 hst9
      go_wp2_with fail
      refine (st_call (sr_ne HQ.out) ihB bdB HO0.out (fun b hb => ⟨Nat.lt_of_lt_of_le HZ.out hb,fun e => Nat.lt_irrefl _ (Nat.lt_of_lt_of_le (HO.out.lt _ e).2 hb)⟩) HST.out).mono ?_
      rintro e w41 ⟨x_b,rfl,ht9,hst9⟩
      replace HX:=bT HX ht9 NE
      replace HO:=Lib.hid (HO.out.turned ht9 (row_ne HO.out HQ.out))
      replace HZ:=zT HZ ht9
      replace HT:=tT HT ht9
      replace HST:=Lib.hid hst9
      clear ht9 hst9
      obtain ⟨o9,ho9⟩:=oN x_b
      replace HX:=bA HX o9
      replace HO:=oA HO o9
      replace HST:=Lib.hid (HST.out.below (bl _ o9))
      replace HT:=tA HT o9
      replace HZ:=zA HZ o9
      subst ho9
      replace HST:=Lib.hid (ST1.congr (K':=fun t u ls n s => (fun t (u : Nd) ls s => Res.ok (.mk 4 t.text ((ls.length - 1 : Nat) : Int) ls) ⟨s.i,s.dep,s.many + 1⟩) t u (ls ++ [n]) s) (fun t u ls n s => by simp) HST.out)
      have HN : Hid (n36 = ((xs_r ++ [(⟨5,u2,0,none,0,0⟩ : NV)])).length):=by obtain ⟨A9,c9,e9,-⟩:=HO.out.form;cases e9;rfl
      have HZ0:=HZ
      obtain ⟨o9,ho9⟩:=oN x_b
      replace HX:=bA HX o9
      replace HO:=oA HO o9
      replace HST:=Lib.hid (HST.out.below (bl _ o9))
      replace HT:=tA HT o9
      replace HZ:=zA HZ o9
      subst ho9
      have LIE:=lN2 w41 x_b
      have BD1 : Hid (((xs_r ++ [(⟨5,u2,0,none,0,0⟩ : NV)])).length ≤ 1000000):=by have:=HL.out;show _ ≤ _;(try simp only [List.length_append,List.length_cons,List.length_nil]);omega
      have BD2 : Hid ([x_b].length ≤ 1000000):=by show _ ≤ _;simp
      go_wp2_with (at_builtin;refine wpList_joinNd rfl _ _ rfl (w.heap.size + 1) _ _ rfl HO.out (some ⟨w41.heap.size + 1,0,none⟩) [x_b] 1 rfl LIE.out BD1.out BD2.out HZ.out ?_;intro A42 n43 c44 w45 hown hgr hpl;have HOWN:=Lib.hid hown;have HGR:=Lib.hid hgr;have HPL:=Lib.hid hpl;clear hown hgr hpl)
      replace HX:=Lib.hid (HX.out.grown HGR.out (row_nw HO.out))
      replace HZ:=Lib.hid (Nat.lt_of_lt_of_le HZ.out HGR.out.size)
      replace HT:=Lib.hid (HT.out.grown HGR.out (fun k e => .inr (row_ge HO.out k e)))
      replace HST:=Lib.hid (ST1.push (K:=(fun t (u : Nd) ls s => Res.ok (.mk 4 t.text ((ls.length - 1 : Nat) : Int) ls) ⟨s.i,s.dep,s.many + 1⟩)) HST.out HE.out HQ.out HO.out HGR.out HPL.out)
      replace HO:=HOWN
      clear LIE HGR HPL HOWN
      replace HST : Hid (ST E rr _ (fun t u ls s => (fun t (u : Nd) ls s => Res.ok (.mk 4 t.text ((ls.length - 1 : Nat) : Int) ls) s) t u ls ⟨s.i,s.dep,s.many + 1⟩) _ _ _ _ _):=HST.out
      refine (st_node (sr_ne HQ.out) 4 _ _ _ _ HST.out).mono ?_
      rintro e w46 ⟨rfl,ht9,hst9⟩
      replace HX:=bT HX ht9 NE
      replace HO:=Lib.hid (HO.out.turned ht9 (row_ne HO.out HQ.out))
      replace HZ:=zT HZ ht9
      replace HT:=tT HT ht9
      replace HST:=Lib.hid hst9
      clear ht9 hst9
      obtain ⟨u0,u1,u2,u3,g0,g1,g2,g3,gl⟩:=HX.out.f4
      go_wp2_with fail
      clear u0 u1 u2 u3 g0 g1 g2 g3 gl
      have HEND:=Lib.hid (st_end HE.out HQ.out HT.out HO.out HX.out (fun t => t.text) (fun _ h => h.symm) (fun ls => ((ls.length - 1 : Nat) : Int)) (fun ls h => by rw [← h,List.length_append,List.length_singleton,Nat.add_sub_cancel,← HN.out]) HST.out rfl)
      refine open_post (fun W => Blk W w.heap.size 24 #[.int .i64 4,.string t,.int .i64 (n36 : Nat),.slice A42 n43 c44] ∧ REnd E rr w (.returned (.agg #[.int .i64 4,.string t,.int .i64 (n36 : Nat),.slice A42 n43 c44])) W) ⟨HEND.out.1.alloc (.cells #[.int .i64 4,.string t,.int .i64 (n36 : Nat),.slice A42 n43 c44] 24),HEND.out.2.alloc (.cells #[.int .i64 4,.string t,.int .i64 (n36 : Nat),.slice A42 n43 c44] 24)⟩ ?_
      rintro W ⟨hb,hE⟩
      obtain ⟨v0,v1,v2,v3,-⟩:=hb.f4
      exact bodyPost_ret (v:=.agg #[.int .i64 4,.string t,.int .i64 (n36 : Nat),.slice A42 n43 c44]) (by simp [results,Tryz.results96,go_sem,v0,v1,v2,v3]) rfl hE
     ·have HST:=Lib.hid (hy9 rfl)
      clear hy9 hn9
      obtain ⟨i9,hlo9,hi9,hfw9,⟨d9,m9,hq9⟩,hst9,ht9⟩:=STG.step (K:=(fun t u ls s => (run E.L E.e g (.parmsL ls) s).bind (methK E f t))) HST.out (sr_ne HQ.out)
      have hw9 : IntKind.i64.wrap ((i9 : Int) + 1) = (i9 : Int) + 1:=IntWalk.i64_in _ (by omega)
      obtain ⟨z0,z1,z2,z3,z4,z5,z6,z7,z8,z9,z10,z11,zl⟩:=hq9.f7
      replace HX:=bT HX ht9 NE
      replace HO:=Lib.hid (HO.out.turned ht9 (row_ne HO.out HQ.out))
      replace HZ:=zT HZ ht9
      replace HT:=tT HT ht9
      replace HST:=Lib.hid hst9
      clear ht9 hst9
      replace HST:=Lib.hid HST.out.st
      go_wp2_with fail
      clear z0 z1 z2 z3 z4 z5 z6 z7 z8 z9 z10 z11 zl hw9
      go_roundw
      case rel => exact ⟨i + 1,false,by go_num,rfl,by omega,HT.out,HZ.out,HX.out,_,_,_,_,_,rfl,HO.out,by have:=HL.out;simp;omega,(fun h => by cases h),(fun _ => ⟨g,hgf,HST.out.low (by omega)⟩)⟩
      case measure => simp [intOf];omega
    ·have HST : Hid (ST E rr wr (fun t u ls s => methK E f t (ndL ls) s) t uv xs_r (SR w (.slice A_r n_r c_r)) i):=.inr ⟨c1,p1,hr1,hs1⟩
     obtain ⟨i8,d8,m8,hq8⟩:=hs1.blk
     obtain ⟨z0,z1,z2,z3,z4,z5,z6,z7,z8,z9,z10,z11,zl⟩:=hq8.f7
     have hc8:=hs1.ne
     clear hq8 hr1 hs1
     replace HST : Hid (ST E rr _ (fun t (u : Nd) ls s => (wantP E.L E.e ⟨#[41]⟩ s).bind fun _ s => (run E.L E.e f .block s).bind fun b s => Res.ok (.mk 4 t.text (ls.length : Nat) (ls ++ [b])) ⟨s.i,s.dep,s.many + 1⟩) _ _ _ _ _):=HST.out
     go_wp2_with fail
     clear z0 z1 z2 z3 z4 z5 z6 z7 z8 z9 z10 z11 zl hc8
     refine (st_want (sr_ne HQ.out) _ HST.out).mono ?_
     rintro e w47 ⟨rfl,ht9,hst9⟩
     replace HX:=bT HX ht9 NE
     replace HO:=Lib.hid (HO.out.turned ht9 (row_ne HO.out HQ.out))
     replace HZ:=zT HZ ht9
     replace HT:=tT HT ht9
     replace HST:=Lib.hid hst9
     clear ht9 hst9
     go_wp2_with fail
     refine (st_call (sr_ne HQ.out) ihB bdB HO0.out (fun b hb => ⟨Nat.lt_of_lt_of_le HZ.out hb,fun e => Nat.lt_irrefl _ (Nat.lt_of_lt_of_le (HO.out.lt _ e).2 hb)⟩) HST.out).mono ?_
     rintro e w48 ⟨x_b,rfl,ht9,hst9⟩
     replace HX:=bT HX ht9 NE
     replace HO:=Lib.hid (HO.out.turned ht9 (row_ne HO.out HQ.out))
     replace HZ:=zT HZ ht9
     replace HT:=tT HT ht9
     replace HST:=Lib.hid hst9
     clear ht9 hst9
     obtain ⟨o9,ho9⟩:=oN x_b
     replace HX:=bA HX o9
     replace HO:=oA HO o9
     replace HST:=Lib.hid (HST.out.below (bl _ o9))
     replace HT:=tA HT o9
     replace HZ:=zA HZ o9
     subst ho9
     replace HST:=Lib.hid (ST1.congr (K':=fun t u ls n s => (fun t (u : Nd) ls s => Res.ok (.mk 4 t.text ((ls.length - 1 : Nat) : Int) ls) ⟨s.i,s.dep,s.many + 1⟩) t u (ls ++ [n]) s) (fun t u ls n s => by simp) HST.out)
     have HN : Hid (n_r = (xs_r).length):=by obtain ⟨A9,c9,e9,-⟩:=HO.out.form;cases e9;rfl
     have HZ0:=HZ
     obtain ⟨o9,ho9⟩:=oN x_b
     replace HX:=bA HX o9
     replace HO:=oA HO o9
     replace HST:=Lib.hid (HST.out.below (bl _ o9))
     replace HT:=tA HT o9
     replace HZ:=zA HZ o9
     subst ho9
     have LIE:=lN2 w48 x_b
     have BD1 : Hid ((xs_r).length ≤ 1000000):=by have:=HL.out;show _ ≤ _;(try simp only [List.length_append,List.length_cons,List.length_nil]);omega
     have BD2 : Hid ([x_b].length ≤ 1000000):=by show _ ≤ _;simp
     go_wp2_with (at_builtin;refine wpList_joinNd rfl _ _ rfl (w.heap.size + 1) _ _ rfl HO.out (some ⟨w48.heap.size + 1,0,none⟩) [x_b] 1 rfl LIE.out BD1.out BD2.out HZ.out ?_;intro A49 n50 c51 w52 hown hgr hpl;have HOWN:=Lib.hid hown;have HGR:=Lib.hid hgr;have HPL:=Lib.hid hpl;clear hown hgr hpl)
     replace HX:=Lib.hid (HX.out.grown HGR.out (row_nw HO.out))
     replace HZ:=Lib.hid (Nat.lt_of_lt_of_le HZ.out HGR.out.size)
     replace HT:=Lib.hid (HT.out.grown HGR.out (fun k e => .inr (row_ge HO.out k e)))
     replace HST:=Lib.hid (ST1.push (K:=(fun t (u : Nd) ls s => Res.ok (.mk 4 t.text ((ls.length - 1 : Nat) : Int) ls) ⟨s.i,s.dep,s.many + 1⟩)) HST.out HE.out HQ.out HO.out HGR.out HPL.out)
     replace HO:=HOWN
     clear LIE HGR HPL HOWN
     replace HST : Hid (ST E rr _ (fun t u ls s => (fun t (u : Nd) ls s => Res.ok (.mk 4 t.text ((ls.length - 1 : Nat) : Int) ls) s) t u ls ⟨s.i,s.dep,s.many + 1⟩) _ _ _ _ _):=HST.out
     refine (st_node (sr_ne HQ.out) 4 _ _ _ _ HST.out).mono ?_
     rintro e w53 ⟨rfl,ht9,hst9⟩
     replace HX:=bT HX ht9 NE
     replace HO:=Lib.hid (HO.out.turned ht9 (row_ne HO.out HQ.out))
     replace HZ:=zT HZ ht9
     replace HT:=tT HT ht9
     replace HST:=Lib.hid hst9
     clear ht9 hst9
     obtain ⟨u0,u1,u2,u3,g0,g1,g2,g3,gl⟩:=HX.out.f4
     go_wp2_with fail
     clear u0 u1 u2 u3 g0 g1 g2 g3 gl
     have HEND:=Lib.hid (st_end HE.out HQ.out HT.out HO.out HX.out (fun t => t.text) (fun _ h => h.symm) (fun ls => ((ls.length - 1 : Nat) : Int)) (fun ls h => by rw [← h,List.length_append,List.length_singleton,Nat.add_sub_cancel,← HN.out]) HST.out rfl)
     refine open_post (fun W => Blk W w.heap.size 24 #[.int .i64 4,.string t,.int .i64 (n_r : Nat),.slice A49 n50 c51] ∧ REnd E rr w (.returned (.agg #[.int .i64 4,.string t,.int .i64 (n_r : Nat),.slice A49 n50 c51])) W) ⟨HEND.out.1.alloc (.cells #[.int .i64 4,.string t,.int .i64 (n_r : Nat),.slice A49 n50 c51] 24),HEND.out.2.alloc (.cells #[.int .i64 4,.string t,.int .i64 (n_r : Nat),.slice A49 n50 c51] 24)⟩ ?_
     rintro W ⟨hb,hE⟩
     obtain ⟨v0,v1,v2,v3,-⟩:=hb.f4
     exact bodyPost_ret (v:=.agg #[.int .i64 4,.string t,.int .i64 (n_r : Nat),.slice A49 n50 c51]) (by simp [results,Tryz.results96,go_sem,v0,v1,v2,v3]) rfl hE
   ·have HST:=Lib.hid (hst1 rfl)
    clear hst1 hst2
    obtain ⟨i8,d8,m8,c8,p8,hq8⟩:=HST.out.cells
    obtain ⟨z0,z1,z2,z3,z4,z5,z6,z7,z8,z9,z10,z11,zl⟩:=hq8.f7
    replace HST : Hid (ST E rr _ (fun t (u : Nd) ls s => (wantP E.L E.e ⟨#[41]⟩ s).bind fun _ s => (run E.L E.e f .block s).bind fun b s => Res.ok (.mk 4 t.text (ls.length : Nat) (ls ++ [b])) ⟨s.i,s.dep,s.many + 1⟩) _ _ _ _ _):=HST.out
    go_wp2_with fail
    clear z0 z1 z2 z3 z4 z5 z6 z7 z8 z9 z10 z11 zl hq8
    refine (st_want (sr_ne HQ.out) _ HST.out).mono ?_
    rintro e w54 ⟨rfl,ht9,hst9⟩
    replace HX:=bT HX ht9 NE
    replace HO:=Lib.hid (HO.out.turned ht9 (row_ne HO.out HQ.out))
    replace HZ:=zT HZ ht9
    replace HT:=tT HT ht9
    replace HST:=Lib.hid hst9
    clear ht9 hst9
    go_wp2_with fail
    refine (st_call (sr_ne HQ.out) ihB bdB HO0.out (fun b hb => ⟨Nat.lt_of_lt_of_le HZ.out hb,fun e => Nat.lt_irrefl _ (Nat.lt_of_lt_of_le (HO.out.lt _ e).2 hb)⟩) HST.out).mono ?_
    rintro e w55 ⟨x_b,rfl,ht9,hst9⟩
    replace HX:=bT HX ht9 NE
    replace HO:=Lib.hid (HO.out.turned ht9 (row_ne HO.out HQ.out))
    replace HZ:=zT HZ ht9
    replace HT:=tT HT ht9
    replace HST:=Lib.hid hst9
    clear ht9 hst9
    obtain ⟨o9,ho9⟩:=oN x_b
    replace HX:=bA HX o9
    replace HO:=oA HO o9
    replace HST:=Lib.hid (HST.out.below (bl _ o9))
    replace HT:=tA HT o9
    replace HZ:=zA HZ o9
    subst ho9
    replace HST:=Lib.hid (ST1.congr (K':=fun t u ls n s => (fun t (u : Nd) ls s => Res.ok (.mk 4 t.text ((ls.length - 1 : Nat) : Int) ls) ⟨s.i,s.dep,s.many + 1⟩) t u (ls ++ [n]) s) (fun t u ls n s => by simp) HST.out)
    have HN : Hid (n_r = (xs_r).length):=by obtain ⟨A9,c9,e9,-⟩:=HO.out.form;cases e9;rfl
    have HZ0:=HZ
    obtain ⟨o9,ho9⟩:=oN x_b
    replace HX:=bA HX o9
    replace HO:=oA HO o9
    replace HST:=Lib.hid (HST.out.below (bl _ o9))
    replace HT:=tA HT o9
    replace HZ:=zA HZ o9
    subst ho9
    have LIE:=lN2 w55 x_b
    have BD1 : Hid ((xs_r).length ≤ 1000000):=by have:=HL.out;show _ ≤ _;(try simp only [List.length_append,List.length_cons,List.length_nil]);omega
    have BD2 : Hid ([x_b].length ≤ 1000000):=by show _ ≤ _;simp
    go_wp2_with (at_builtin;refine wpList_joinNd rfl _ _ rfl (w.heap.size + 1) _ _ rfl HO.out (some ⟨w55.heap.size + 1,0,none⟩) [x_b] 1 rfl LIE.out BD1.out BD2.out HZ.out ?_;intro A56 n57 c58 w59 hown hgr hpl;have HOWN:=Lib.hid hown;have HGR:=Lib.hid hgr;have HPL:=Lib.hid hpl;clear hown hgr hpl)
    replace HX:=Lib.hid (HX.out.grown HGR.out (row_nw HO.out))
    replace HZ:=Lib.hid (Nat.lt_of_lt_of_le HZ.out HGR.out.size)
    replace HT:=Lib.hid (HT.out.grown HGR.out (fun k e => .inr (row_ge HO.out k e)))
    replace HST:=Lib.hid (ST1.push (K:=(fun t (u : Nd) ls s => Res.ok (.mk 4 t.text ((ls.length - 1 : Nat) : Int) ls) ⟨s.i,s.dep,s.many + 1⟩)) HST.out HE.out HQ.out HO.out HGR.out HPL.out)
    replace HO:=HOWN
    clear LIE HGR HPL HOWN
    replace HST : Hid (ST E rr _ (fun t u ls s => (fun t (u : Nd) ls s => Res.ok (.mk 4 t.text ((ls.length - 1 : Nat) : Int) ls) s) t u ls ⟨s.i,s.dep,s.many + 1⟩) _ _ _ _ _):=HST.out
    refine (st_node (sr_ne HQ.out) 4 _ _ _ _ HST.out).mono ?_
    rintro e w60 ⟨rfl,ht9,hst9⟩
    replace HX:=bT HX ht9 NE
    replace HO:=Lib.hid (HO.out.turned ht9 (row_ne HO.out HQ.out))
    replace HZ:=zT HZ ht9
    replace HT:=tT HT ht9
    replace HST:=Lib.hid hst9
    clear ht9 hst9
    obtain ⟨u0,u1,u2,u3,g0,g1,g2,g3,gl⟩:=HX.out.f4
    go_wp2_with fail
    clear u0 u1 u2 u3 g0 g1 g2 g3 gl
    have HEND:=Lib.hid (st_end HE.out HQ.out HT.out HO.out HX.out (fun t => t.text) (fun _ h => h.symm) (fun ls => ((ls.length - 1 : Nat) : Int)) (fun ls h => by rw [← h,List.length_append,List.length_singleton,Nat.add_sub_cancel,← HN.out]) HST.out rfl)
    refine open_post (fun W => Blk W w.heap.size 24 #[.int .i64 4,.string t,.int .i64 (n_r : Nat),.slice A56 n57 c58] ∧ REnd E rr w (.returned (.agg #[.int .i64 4,.string t,.int .i64 (n_r : Nat),.slice A56 n57 c58])) W) ⟨HEND.out.1.alloc (.cells #[.int .i64 4,.string t,.int .i64 (n_r : Nat),.slice A56 n57 c58] 24),HEND.out.2.alloc (.cells #[.int .i64 4,.string t,.int .i64 (n_r : Nat),.slice A56 n57 c58] 24)⟩ ?_
    rintro W ⟨hb,hE⟩
    obtain ⟨v0,v1,v2,v3,-⟩:=hb.f4
    exact bodyPost_ret (v:=.agg #[.int .i64 4,.string t,.int .i64 (n_r : Nat),.slice A56 n57 c58]) (by simp [results,Tryz.results96,go_sem,v0,v1,v2,v3]) rfl hE
end Go.Proofs.YtbpldfmmlgkfnaaGreatDoor

namespace Go.Proofs.YtbpldfmmlgkfnaaGreatDoor
open Go.RowKit
set_option linter.unusedVariables false
def clsK3 (E : Env) (t b : Nd) (s : PS) : Res:=(wantP E.L E.e ⟨#[125]⟩ s).bind fun _ s => .ok (.mk 2 t.text 0 b.kids) ⟨s.i,s.dep,s.many + 1⟩
def clsK2 (E : Env) (f : Nat) (t a : Nd) (s : PS) : Res:=(run E.L E.e f (.methsL a.kids) s).bind (clsK3 E t)
def clsK1 (E : Env) (f : Nat) (t o : Nd) (s : PS) : Res:=(wantP E.L E.e ⟨#[123]⟩ s).bind fun _ s => (run E.L E.e f (.slotsL o.kids) s).bind (clsK2 E f t)
/-- What a loop over a row holds where a name stands before. -/
def XInv (w : World) (E : Env) (rr : Res) (cmd : List Nd → Cmd) (K : Nd → Nd → PS → Res) (f m i : Nat) (v : Value) (tv : ByteArray) (wr : World) : Prop :=
 Turned w wr (fun b => b = E.Q) ∧ w.heap.size < wr.heap.size ∧ Blk wr w.heap.size 24 #[.int .i64 0,.string ⟨#[]⟩,.int .i64 0,.slice none 0 0] ∧
  ∃ A n c xs uv,v = .slice A n c ∧ OwnN wr (w.heap.size + 1) (.slice A n c) xs ∧ xs.length ≤ m + i ∧ ∃ g,g ≤ f ∧ ST E rr wr (fun t u ls s => (run E.L E.e g (cmd ls) s).bind (K t)) tv uv xs (SR w (.slice A n c)) i
theorem slots_open {E : Env} {rr : Res} {w : World} {tv uv : ByteArray} {xs : List NV} {S : Nat → Prop} {i f g : Nat} {K : Nd → Nd → PS → Res} (ho : rr ≠ .out) (hg : g ≤ f) (h : ST E rr w (fun t u ls s => (run E.L E.e g (.slotsL ls) s).bind (K t)) tv uv xs S i) :
  ∃ g',g' ≤ f ∧ ST E rr w (fun t u ls s => if seesP E.L ⟨#[115,108,111,116]⟩ s = true then (nameP E.L E.e (stepP s)).bind fun u s => (wantP E.L E.e ⟨#[59]⟩ s).bind fun _ s => (run E.L E.e g' (.slotsL (ls ++ [.mk 3 u.text 0 []])) ⟨s.i,s.dep,s.many + 1⟩).bind (K t) else K t (ndL ls) s) tv uv xs S i:=by
 cases g with
 | zero => exact ⟨0,Nat.zero_le _,h.out ho (fun t u ls s => rfl)⟩
 | succ g =>
  refine ⟨g,Nat.le_of_succ_le hg,h.congr (fun t u ls s => ?_)⟩
  simp only [run,tx_slot,tx_semi,nodeP]
  split
  ·simp only [bind_assoc,ok_bind]
  ·rfl
theorem meths_open {E : Env} {rr : Res} {w : World} {tv uv : ByteArray} {xs : List NV} {S : Nat → Prop} {i f g : Nat} {K : Nd → Nd → PS → Res} (ho : rr ≠ .out) (hg : g ≤ f) (h : ST E rr w (fun t u ls s => (run E.L E.e g (.methsL ls) s).bind (K t)) tv uv xs S i) :
  ∃ g',g' ≤ f ∧ ST E rr w (fun t u ls s => if seesP E.L ⟨#[116,111]⟩ s = true then (run E.L E.e g' .meth (stepP s)).bind fun k s => (run E.L E.e g' (.methsL (ls ++ [k])) s).bind (K t) else K t (ndL ls) s) tv uv xs S i:=by
 cases g with
 | zero => exact ⟨0,Nat.zero_le _,h.out ho (fun t u ls s => rfl)⟩
 | succ g =>
  refine ⟨g,Nat.le_of_succ_le hg,h.congr (fun t u ls s => ?_)⟩
  simp only [run,tx_to]
  split
  ·simp only [bind_assoc]
  ·rfl

set_option maxRecDepth 100000 in
set_option maxHeartbeats 3200000 in
theorem rclass_any {f : Nat} (ihM : ∀ g,g ≤ f → RCall g .meth 96) {E : Env} {s : PS} {w : World} (h : RGood w E s) (hout : run E.L E.e (f + 1) .cls s ≠ .out) : Calls Tryz.prog 68 #[.pointer (some ⟨E.Q,0,none⟩)] w (REnd E (run E.L E.e (f + 1) .cls s) w):=by
 have hE : RAt w E (.ok nd0 s):=h
 have HO0:=Lib.hid hout
 generalize hrr : run E.L E.e (f + 1) .cls s = rr at *
 have hr : rr = (fun (_ u : Nd) (ls : List Nd) s => (nameP E.L E.e s).bind fun t s => (if seesP E.L ⟨#[58]⟩ s = true then (nameP E.L E.e (stepP s)).bind fun u s => (Res.ok (.mk 31 u.text 0 []) ⟨s.i,s.dep,s.many + 1⟩).bind fun k s => Res.ok (ndL [k]) s else Res.ok (ndL []) s).bind (clsK1 E f t)) nd0 nd0 [] s:=by rw [← hrr];simp only [run,nodeP,tx_col,tx_lb,tx_rb];rfl
 clear hrr hout
 have HE:=Lib.hid hE.env
 have HQ:=Lib.hid hE.old
 have NE : Hid (¬ w.heap.size = E.Q):=by have:=hE.old;show ¬ _;omega
 have hfew:=h.env.few
 obtain ⟨o9,ho9⟩:=oZ
 have hb0:=bl w o9
 have HT:=Lib.hid (Turned.of_below (fun b => b = E.Q) hb0)
 have HX:=zB w
 have HZ:=zN w o9
 have HO:=Lib.hid (OwnN.nil (w.alloc o9) (w.heap.size + 1))
 subst ho9
 have HST : Hid (ST E rr (w.alloc (.cells #[.int .i64 0,.string ⟨#[]⟩,.int .i64 0,.slice none 0 0] 24)) (fun (_ u : Nd) (ls : List Nd) s => (nameP E.L E.e s).bind fun t s => (if seesP E.L ⟨#[58]⟩ s = true then (nameP E.L E.e (stepP s)).bind fun u s => (Res.ok (.mk 31 u.text 0 []) ⟨s.i,s.dep,s.many + 1⟩).bind fun k s => Res.ok (ndL [k]) s else Res.ok (ndL []) s).bind (clsK1 E f t)) ByteArray.empty ByteArray.empty [] (SR w (.slice none 0 0)) 0):=ST.below (K:=(fun (_ u : Nd) (ls : List Nd) s => (nameP E.L E.e s).bind fun t s => (if seesP E.L ⟨#[58]⟩ s = true then (nameP E.L E.e (stepP s)).bind fun u s => (Res.ok (.mk 31 u.text 0 []) ⟨s.i,s.dep,s.many + 1⟩).bind fun k s => Res.ok (ndL [k]) s else Res.ok (ndL []) s).bind (clsK1 E f t))) (.inl ⟨nd0,nd0,[],s,hr,h,rfl,rfl,AllN.nil _ _,Nat.zero_le _⟩) hb0
 clear h hE hb0 hr
 go_enter Tryz.func68,Tryz.ntmps68
 go_wp2_with fail
 generalize (w.alloc (.cells #[.int .i64 0,.string ⟨#[]⟩,.int .i64 0,.slice none 0 0] 24)) = w1 at *
 refine (st_name1 (sr_ne HQ.out) HST.out).mono ?_
 rintro e w2 ⟨t,rfl,ht9,hst9⟩
 replace HX:=bT HX ht9 NE
 replace HO:=Lib.hid (HO.out.turned ht9 (row_ne HO.out HQ.out))
 replace HZ:=zT HZ ht9
 replace HT:=tT HT ht9
 replace HST:=Lib.hid hst9
 clear ht9 hst9
 have HNIL : Hid (ST E rr _ (fun t (u : Nd) ls s => if seesP E.L ⟨#[58]⟩ s = true then (nameP E.L E.e (stepP s)).bind fun u s => clsK1 E f t (ndL (ls ++ [.mk 31 u.text 0 []])) ⟨s.i,s.dep,s.many + 1⟩ else clsK1 E f t (ndL ls) s) _ _ _ _ _):=ST.nil (K:=fun t (u : Nd) (ls : List Nd) s => (if seesP E.L ⟨#[58]⟩ s = true then (nameP E.L E.e (stepP s)).bind fun u s => (Res.ok (.mk 31 u.text 0 []) ⟨s.i,s.dep,s.many + 1⟩).bind fun k s => Res.ok (ndL [k]) s else Res.ok (ndL []) s).bind (clsK1 E f t)) HST.out (fun t u s => by
  split
  ·rw [bind_assoc];rfl
  ·rfl)
 replace HST:=HNIL
 clear HNIL
 go_wp2_with fail
 refine (st_sees (sr_ne HQ.out) _ HST.out).mono ?_
 rintro e w3 ⟨b9,rfl,ht9,hy9,hn9⟩
 replace HX:=bT HX ht9 NE
 replace HO:=Lib.hid (HO.out.turned ht9 (row_ne HO.out HQ.out))
 replace HZ:=zT HZ ht9
 replace HT:=tT HT ht9
 clear ht9 HST
 cases b9
 ·have HST:=Lib.hid (hn9 rfl)
  clear hy9 hn9
  replace HST : Hid (ST E rr _ (fun t (u : Nd) ls s => (wantP E.L E.e ⟨#[123]⟩ s).bind fun _ s => (run E.L E.e f (.slotsL ls) s).bind (clsK2 E f t)) _ _ _ _ _):=HST.out
  go_wp2_with fail
  refine (st_want (sr_ne HQ.out) _ HST.out).mono ?_
  rintro e w4 ⟨rfl,ht9,hst9⟩
  replace HX:=bT HX ht9 NE
  replace HO:=Lib.hid (HO.out.turned ht9 (row_ne HO.out HQ.out))
  replace HZ:=zT HZ ht9
  replace HT:=tT HT ht9
  replace HST:=Lib.hid hst9
  clear ht9 hst9
  go_wp2_with fail
  go_loopw [4,5,8] (fun v b u wr => ∃ (i : Nat) (q : Bool),u = .int .i64 (i : Int) ∧ b = .bool q ∧ i ≤ E.L.length ∧ XInv w E rr .slotsL (clsK2 E f) f 1 i v t wr) (fun _ _ u _ => E.L.length + 1 - (intOf u).toNat)
  case atStart => exact ⟨0,_,rfl,rfl,Nat.zero_le _,HT.out,HZ.out,HX.out,_,_,_,_,_,rfl,HO.out,by simp,f,Nat.le_refl _,HST.out.low (Nat.zero_le _)⟩
  case round =>
   clear HT HZ HX HO HST
   obtain ⟨i,q,rfl,rfl,hi,ht,hz,hx,A_r,n_r,c_r,xs_r,uv,rfl,ho,hl,g0,hg0,hst⟩:=hrel
   obtain ⟨g,hgf,hst⟩:=slots_open HO0.out hg0 hst
   have HT:=Lib.hid ht
   have HZ:=Lib.hid hz
   have HX:=Lib.hid hx
   have HO:=Lib.hid ho
   have HL:=Lib.hid hl
   have HST:=Lib.hid hst
   clear ht hz hx ho hl hst hg0
   have hwi : IntKind.i64.wrap ((i : Int) + 1) = (i : Int) + 1:=IntWalk.i64_in _ (by omega)
   obtain ⟨i8,d8,m8,c8,p8,hq8⟩:=HST.out.cells
   obtain ⟨z0,z1,z2,z3,z4,z5,z6,z7,z8,z9,z10,z11,zl⟩:=hq8.f7
   go_wp2_with fail
   clear z0 z1 z2 z3 z4 z5 z6 z7 z8 z9 z10 z11 zl hq8
   refine (st_sees (sr_ne HQ.out) _ HST.out).mono ?_
   rintro e w5 ⟨b9,rfl,ht9,hy9,hn9⟩
   replace HX:=bT HX ht9 NE
   replace HO:=Lib.hid (HO.out.turned ht9 (row_ne HO.out HQ.out))
   replace HZ:=zT HZ ht9
   replace HT:=tT HT ht9
   clear ht9 HST
   cases b9
   ·have HST:=Lib.hid (hn9 rfl)
    clear hy9 hn9
    replace HST : Hid (ST E rr _ (fun t (u : Nd) ls s => (run E.L E.e f (.methsL ls) s).bind (clsK3 E t)) _ _ _ _ _):=HST.out
    go_wp2_with fail
    go_loopw [4,5,11] (fun v b u wr => ∃ (j : Nat) (q : Bool),u = .int .i64 (j : Int) ∧ b = .bool q ∧ j ≤ E.L.length ∧ XInv w E rr .methsL (clsK3 E) f 5000 j v t wr) (fun _ _ u _ => E.L.length + 1 - (intOf u).toNat)
    case atStart => exact ⟨0,_,rfl,rfl,Nat.zero_le _,HT.out,HZ.out,HX.out,_,_,_,_,_,rfl,HO.out,by have:=HL.out;omega,f,Nat.le_refl _,HST.out.low (Nat.zero_le _)⟩
    case round =>
     clear HT HZ HX HO HST HL
     obtain ⟨j,q2,rfl,rfl,hj,ht,hz,hx,B_r,m_r,d_r,ys_r,uv2,rfl,ho,hl,g1,hg1,hst⟩:=hrel
     obtain ⟨g2,hgf2,hst⟩:=meths_open HO0.out hg1 hst
     have HT:=Lib.hid ht
     have HZ:=Lib.hid hz
     have HX:=Lib.hid hx
     have HO:=Lib.hid ho
     have HL:=Lib.hid hl
     have HST:=Lib.hid hst
     clear ht hz hx ho hl hst hg1
     have hwj : IntKind.i64.wrap ((j : Int) + 1) = (j : Int) + 1:=IntWalk.i64_in _ (by omega)
     obtain ⟨i8,d8,m8,c8,p8,hq8⟩:=HST.out.cells
     obtain ⟨z0,z1,z2,z3,z4,z5,z6,z7,z8,z9,z10,z11,zl⟩:=hq8.f7
     go_wp2_with fail
     clear z0 z1 z2 z3 z4 z5 z6 z7 z8 z9 z10 z11 zl hq8
     refine (st_sees (sr_ne HQ.out) _ HST.out).mono ?_
     rintro e w6 ⟨b9,rfl,ht9,hy9,hn9⟩
     replace HX:=bT HX ht9 NE
     replace HO:=Lib.hid (HO.out.turned ht9 (row_ne HO.out HQ.out))
     replace HZ:=zT HZ ht9
     replace HT:=tT HT ht9
     clear ht9 HST
     cases b9
     ·have HST:=Lib.hid (hn9 rfl)
      clear hy9 hn9
      replace HST : Hid (ST E rr _ (fun t (u : Nd) ls s => (wantP E.L E.e ⟨#[125]⟩ s).bind fun _ s => Res.ok (.mk 2 t.text 0 ls) ⟨s.i,s.dep,s.many + 1⟩) _ _ _ _ _):=HST.out
      go_wp2_with fail
      refine (st_want (sr_ne HQ.out) _ HST.out).mono ?_
      rintro e w7 ⟨rfl,ht9,hst9⟩
      replace HX:=bT HX ht9 NE
      replace HO:=Lib.hid (HO.out.turned ht9 (row_ne HO.out HQ.out))
      replace HZ:=zT HZ ht9
      replace HT:=tT HT ht9
      replace HST:=Lib.hid hst9
      clear ht9 hst9
      go_wp2_with fail
      replace HST : Hid (ST E rr _ (fun t u ls s => (fun t (u : Nd) ls s => Res.ok (.mk 2 t.text 0 ls) s) t u ls ⟨s.i,s.dep,s.many + 1⟩) _ _ _ _ _):=HST.out
      refine (st_node (sr_ne HQ.out) 2 _ _ _ _ HST.out).mono ?_
      rintro e w8 ⟨rfl,ht9,hst9⟩
      replace HX:=bT HX ht9 NE
      replace HO:=Lib.hid (HO.out.turned ht9 (row_ne HO.out HQ.out))
      replace HZ:=zT HZ ht9
      replace HT:=tT HT ht9
      replace HST:=Lib.hid hst9
      clear ht9 hst9
      obtain ⟨u0,u1,u2,u3,g0,g1,g2,g3,gl⟩:=HX.out.f4
      go_wp2_with fail
      clear u0 u1 u2 u3 g0 g1 g2 g3 gl
      have HEND:=Lib.hid (st_end HE.out HQ.out HT.out HO.out HX.out (fun t => t.text) (fun _ h => h.symm) (fun _ => 0) (fun _ _ => rfl) HST.out rfl)
      refine open_post (fun W => Blk W w.heap.size 24 #[.int .i64 2,.string t,.int .i64 0,.slice B_r m_r d_r] ∧ REnd E rr w (.returned (.agg #[.int .i64 2,.string t,.int .i64 0,.slice B_r m_r d_r])) W) HEND.out ?_
      rintro W ⟨hb,hE⟩
      obtain ⟨v0,v1,v2,v3,-⟩:=hb.f4
      exact bodyPost_ret (v:=.agg #[.int .i64 2,.string t,.int .i64 0,.slice B_r m_r d_r]) (by simp [results,Tryz.results68,go_sem,v0,v1,v2,v3]) rfl hE
     ·have HST:=Lib.hid (hy9 rfl)
      clear hy9 hn9
      obtain ⟨i9,hlo9,hi9,hfw9,⟨d9,m9,hq9⟩,hst9,ht9⟩:=STG.step (K:=(fun t (u : Nd) ls s => (run E.L E.e g2 .meth s).bind fun k s => (run E.L E.e g2 (.methsL (ls ++ [k])) s).bind (clsK3 E t))) HST.out (sr_ne HQ.out)
      have hw9 : IntKind.i64.wrap ((i9 : Int) + 1) = (i9 : Int) + 1:=IntWalk.i64_in _ (by omega)
      obtain ⟨z0,z1,z2,z3,z4,z5,z6,z7,z8,z9,z10,z11,zl⟩:=hq9.f7
      replace HX:=bT HX ht9 NE
      replace HO:=Lib.hid (HO.out.turned ht9 (row_ne HO.out HQ.out))
      replace HZ:=zT HZ ht9
      replace HT:=tT HT ht9
      replace HST:=Lib.hid hst9
      clear ht9 hst9
      go_wp2_with fail
      clear z0 z1 z2 z3 z4 z5 z6 z7 z8 z9 z10 z11 zl hw9 hq9
      generalize (World.setCell w6 ⟨E.Q,2,none⟩ (.int .i64 ((i9 : Int) + 1))) = w9 at *
      refine (sto_call (sr_ne HQ.out) (ihM g2 hgf2)  HO0.out (fun b hb => ⟨Nat.lt_of_lt_of_le HZ.out hb,fun e => Nat.lt_irrefl _ (Nat.lt_of_lt_of_le (HO.out.lt _ e).2 hb)⟩) HST.out).mono ?_
      rintro e w10 ⟨x_k,rfl,ht9,hst9⟩
      replace HX:=bT HX ht9 NE
      replace HO:=Lib.hid (HO.out.turned ht9 (row_ne HO.out HQ.out))
      replace HZ:=zT HZ ht9
      replace HT:=tT HT ht9
      replace HST:=Lib.hid hst9
      clear ht9 hst9
      obtain ⟨o9,ho9⟩:=oN x_k
      replace HX:=bA HX o9
      replace HO:=oA HO o9
      replace HST:=Lib.hid (HST.out.below (bl _ o9))
      replace HT:=tA HT o9
      replace HZ:=zA HZ o9
      have HZ0:=HZ
      replace HX:=bA HX o9
      replace HO:=oA HO o9
      replace HST:=Lib.hid (HST.out.below (bl _ o9))
      replace HT:=tA HT o9
      replace HZ:=zA HZ o9
      subst ho9
      have LIE:=lN2 w10 x_k
      have BD1 : Hid ((ys_r).length ≤ 1000000):=by have:=HL.out;show _ ≤ _;omega
      have BD2 : Hid ([x_k].length ≤ 1000000):=by show _ ≤ _;simp
      go_wp2_with (at_builtin;refine wpList_joinNd rfl _ _ rfl (w.heap.size + 1) _ _ rfl HO.out (some ⟨w10.heap.size + 1,0,none⟩) [x_k] 1 rfl LIE.out BD1.out BD2.out HZ.out ?_;intro A11 n12 c13 w14 hown hgr hpl;have HOWN:=Lib.hid hown;have HGR:=Lib.hid hgr;have HPL:=Lib.hid hpl;clear hown hgr hpl)
      replace HX:=Lib.hid (HX.out.grown HGR.out (row_nw HO.out))
      replace HZ:=Lib.hid (Nat.lt_of_lt_of_le HZ.out HGR.out.size)
      replace HT:=Lib.hid (HT.out.grown HGR.out (fun k e => .inr (row_ge HO.out k e)))
      replace HST:=Lib.hid (ST1.push (K:=(fun t (u : Nd) ls s => (run E.L E.e g2 (.methsL ls) s).bind (clsK3 E t))) HST.out HE.out HQ.out HO.out HGR.out HPL.out)
      replace HO:=HOWN
      clear LIE HGR HPL HOWN
      go_roundw
      case rel => exact ⟨j + 1,true,by go_num,rfl,by omega,HT.out,HZ.out,HX.out,_,_,_,_,_,rfl,HO.out,by have:=HL.out;simp;omega,g2,hgf2,HST.out.low (by omega)⟩
      case measure => simp [intOf];omega
   ·have HST:=Lib.hid (hy9 rfl)
    clear hy9 hn9
    obtain ⟨i9,hlo9,hi9,hfw9,⟨d9,m9,hq9⟩,hst9,ht9⟩:=STG.step (K:=(fun t (u : Nd) ls s => (nameP E.L E.e s).bind fun u s => (wantP E.L E.e ⟨#[59]⟩ s).bind fun _ s => (run E.L E.e g (.slotsL (ls ++ [.mk 3 u.text 0 []])) ⟨s.i,s.dep,s.many + 1⟩).bind (clsK2 E f t))) HST.out (sr_ne HQ.out)
    have hw9 : IntKind.i64.wrap ((i9 : Int) + 1) = (i9 : Int) + 1:=IntWalk.i64_in _ (by omega)
    obtain ⟨z0,z1,z2,z3,z4,z5,z6,z7,z8,z9,z10,z11,zl⟩:=hq9.f7
    replace HX:=bT HX ht9 NE
    replace HO:=Lib.hid (HO.out.turned ht9 (row_ne HO.out HQ.out))
    replace HZ:=zT HZ ht9
    replace HT:=tT HT ht9
    replace HST:=Lib.hid hst9
    clear ht9 hst9
    replace HST:=Lib.hid HST.out.st
    go_wp2_with fail
    clear z0 z1 z2 z3 z4 z5 z6 z7 z8 z9 z10 z11 zl hw9 hq9
    generalize (World.setCell w5 ⟨E.Q,2,none⟩ (.int .i64 ((i9 : Int) + 1))) = w15 at *
    refine (st_name2 (sr_ne HQ.out) HST.out).mono ?_
    rintro e w16 ⟨u2,rfl,ht9,hst9⟩
    replace HX:=bT HX ht9 NE
    replace HO:=Lib.hid (HO.out.turned ht9 (row_ne HO.out HQ.out))
    replace HZ:=zT HZ ht9
    replace HT:=tT HT ht9
    replace HST:=Lib.hid hst9
    clear ht9 hst9
    go_wp2_with fail
    refine (st_want (sr_ne HQ.out) _ HST.out).mono ?_
    rintro e w17 ⟨rfl,ht9,hst9⟩
    replace HX:=bT HX ht9 NE
    replace HO:=Lib.hid (HO.out.turned ht9 (row_ne HO.out HQ.out))
    replace HZ:=zT HZ ht9
    replace HT:=tT HT ht9
    replace HST:=Lib.hid hst9
    clear ht9 hst9
    go_wp2_with fail
    replace HST : Hid (ST E rr _ (fun t u ls s => (fun t u ls s => ((fun t (u : Nd) ls (n : Nd) s => (run E.L E.e g (.slotsL (ls ++ [n])) s).bind (clsK2 E f t))) t u ls (.mk 3 u.text 0 []) s) t u ls ⟨s.i,s.dep,s.many + 1⟩) _ _ _ _ _):=HST.out
    refine (st_node (sr_ne HQ.out) 3 _ _ _ _ HST.out).mono ?_
    rintro e w18 ⟨rfl,ht9,hst9⟩
    replace HX:=bT HX ht9 NE
    replace HO:=Lib.hid (HO.out.turned ht9 (row_ne HO.out HQ.out))
    replace HZ:=zT HZ ht9
    replace HT:=tT HT ht9
    replace HST:=Lib.hid hst9
    clear ht9 hst9
    replace HST:=Lib.hid (ST.leaf (K:=(fun t (u : Nd) ls (n : Nd) s => (run E.L E.e g (.slotsL (ls ++ [n])) s).bind (clsK2 E f t))) 3 0 HST.out)
    obtain ⟨o9,ho9⟩ : ∃ o : Obj,o = (.cells #[.int .i64 3,.string u2,.int .i64 0,.slice none 0 0] 24):=⟨_,rfl⟩
    replace HX:=bA HX o9
    replace HO:=oA HO o9
    replace HST:=Lib.hid (HST.out.below (bl _ o9))
    replace HT:=tA HT o9
    replace HZ:=zA HZ o9
    have HZ0:=HZ
    replace HX:=bA HX o9
    replace HO:=oA HO o9
    replace HST:=Lib.hid (HST.out.below (bl _ o9))
    replace HT:=tA HT o9
    replace HZ:=zA HZ o9
    subst ho9
    have LIE : Hid (LieN (World.alloc (World.alloc w18 (.cells #[.int .i64 3,.string u2,.int .i64 0,.slice none 0 0] 24)) (.cells #[.int .i64 3,.string u2,.int .i64 0,.slice none 0 0] 24)) (some ⟨w18.heap.size + 1,0,none⟩) [(⟨3,u2,0,none,0,0⟩ : NV)]):=by have h:=lie_new (World.alloc w18 (.cells #[.int .i64 3,.string u2,.int .i64 0,.slice none 0 0] 24)) [(⟨3,u2,0,none,0,0⟩ : NV)] #[.int .i64 3,.string u2,.int .i64 0,.slice none 0 0] 24 rfl;rw [World.size_alloc] at h;exact h
    have BD1 : Hid ((xs_r).length ≤ 1000000):=by have:=HL.out;show _ ≤ _;omega
    have BD2 : Hid ([(⟨3,u2,0,none,0,0⟩ : NV)].length ≤ 1000000):=by show _ ≤ _;simp
    go_wp2_with (at_builtin;refine wpList_joinNd rfl _ _ rfl (w.heap.size + 1) _ _ rfl HO.out (some ⟨w18.heap.size + 1,0,none⟩) [(⟨3,u2,0,none,0,0⟩ : NV)] 1 rfl LIE.out BD1.out BD2.out HZ.out ?_;intro A19 n20 c21 w22 hown hgr hpl;have HOWN:=Lib.hid hown;have HGR:=Lib.hid hgr;have HPL:=Lib.hid hpl;clear hown hgr hpl)
    replace HX:=Lib.hid (HX.out.grown HGR.out (row_nw HO.out))
    replace HZ:=Lib.hid (Nat.lt_of_lt_of_le HZ.out HGR.out.size)
    replace HT:=Lib.hid (HT.out.grown HGR.out (fun k e => .inr (row_ge HO.out k e)))
    replace HST:=Lib.hid (ST1.push (K:=(fun t (u : Nd) ls s => (run E.L E.e g (.slotsL ls) s).bind (clsK2 E f t))) HST.out HE.out HQ.out HO.out HGR.out HPL.out)
    replace HO:=HOWN
    clear LIE HGR HPL HOWN
    go_roundw
    case rel => exact ⟨i + 1,true,by go_num,rfl,by omega,HT.out,HZ.out,HX.out,_,_,_,_,_,rfl,HO.out,by have:=HL.out;simp;omega,g,hgf,HST.out.low (by omega)⟩
    case measure => simp [intOf];omega
 ·have HST:=Lib.hid (hy9 rfl)
  clear hy9 hn9
  obtain ⟨i9,hlo9,hi9,hfw9,⟨d9,m9,hq9⟩,hst9,ht9⟩:=STG.step (K:=(fun t (u : Nd) ls s => (nameP E.L E.e s).bind fun u s => clsK1 E f t (ndL (ls ++ [.mk 31 u.text 0 []])) ⟨s.i,s.dep,s.many + 1⟩)) HST.out (sr_ne HQ.out)
  have hw9 : IntKind.i64.wrap ((i9 : Int) + 1) = (i9 : Int) + 1:=IntWalk.i64_in _ (by omega)
  obtain ⟨z0,z1,z2,z3,z4,z5,z6,z7,z8,z9,z10,z11,zl⟩:=hq9.f7
  replace HX:=bT HX ht9 NE
  replace HO:=Lib.hid (HO.out.turned ht9 (row_ne HO.out HQ.out))
  replace HZ:=zT HZ ht9
  replace HT:=tT HT ht9
  replace HST:=Lib.hid hst9
  clear ht9 hst9
  replace HST:=Lib.hid HST.out.st
  go_wp2_with fail
  clear z0 z1 z2 z3 z4 z5 z6 z7 z8 z9 z10 z11 zl hw9 hq9
  generalize (World.setCell w3 ⟨E.Q,2,none⟩ (.int .i64 ((i9 : Int) + 1))) = w23 at *
  refine (st_name2 (sr_ne HQ.out) HST.out).mono ?_
  rintro e w24 ⟨u1,rfl,ht9,hst9⟩
  replace HX:=bT HX ht9 NE
  replace HO:=Lib.hid (HO.out.turned ht9 (row_ne HO.out HQ.out))
  replace HZ:=zT HZ ht9
  replace HT:=tT HT ht9
  replace HST:=Lib.hid hst9
  clear ht9 hst9
  go_wp2_with fail
  replace HST : Hid (ST E rr _ (fun t u ls s => (fun t u ls s => ((fun t (u : Nd) ls (n : Nd) s => clsK1 E f t (ndL (ls ++ [n])) s)) t u ls (.mk 31 u.text 0 []) s) t u ls ⟨s.i,s.dep,s.many + 1⟩) _ _ _ _ _):=HST.out
  refine (st_node (sr_ne HQ.out) 31 _ _ _ _ HST.out).mono ?_
  rintro e w25 ⟨rfl,ht9,hst9⟩
  replace HX:=bT HX ht9 NE
  replace HO:=Lib.hid (HO.out.turned ht9 (row_ne HO.out HQ.out))
  replace HZ:=zT HZ ht9
  replace HT:=tT HT ht9
  replace HST:=Lib.hid hst9
  clear ht9 hst9
  replace HST:=Lib.hid (ST.leaf (K:=(fun t (u : Nd) ls (n : Nd) s => clsK1 E f t (ndL (ls ++ [n])) s)) 31 0 HST.out)
  obtain ⟨o9,ho9⟩ : ∃ o : Obj,o = (.cells #[.int .i64 31,.string u1,.int .i64 0,.slice none 0 0] 24):=⟨_,rfl⟩
  replace HX:=bA HX o9
  replace HO:=oA HO o9
  replace HST:=Lib.hid (HST.out.below (bl _ o9))
  replace HT:=tA HT o9
  replace HZ:=zA HZ o9
  have HZ0:=HZ
  replace HX:=bA HX o9
  replace HO:=oA HO o9
  replace HST:=Lib.hid (HST.out.below (bl _ o9))
  replace HT:=tA HT o9
  replace HZ:=zA HZ o9
  subst ho9
  have LIE : Hid (LieN (World.alloc (World.alloc w25 (.cells #[.int .i64 31,.string u1,.int .i64 0,.slice none 0 0] 24)) (.cells #[.int .i64 31,.string u1,.int .i64 0,.slice none 0 0] 24)) (some ⟨w25.heap.size + 1,0,none⟩) [(⟨31,u1,0,none,0,0⟩ : NV)]):=by have h:=lie_new (World.alloc w25 (.cells #[.int .i64 31,.string u1,.int .i64 0,.slice none 0 0] 24)) [(⟨31,u1,0,none,0,0⟩ : NV)] #[.int .i64 31,.string u1,.int .i64 0,.slice none 0 0] 24 rfl;rw [World.size_alloc] at h;exact h
  have BD1 : Hid ((([] : List NV)).length ≤ 1000000):=by show _ ≤ _;simp
  have BD2 : Hid ([(⟨31,u1,0,none,0,0⟩ : NV)].length ≤ 1000000):=by show _ ≤ _;simp
  go_wp2_with (at_builtin;refine wpList_joinNd rfl _ _ rfl (w.heap.size + 1) _ _ rfl HO.out (some ⟨w25.heap.size + 1,0,none⟩) [(⟨31,u1,0,none,0,0⟩ : NV)] 1 rfl LIE.out BD1.out BD2.out HZ.out ?_;intro A26 n27 c28 w29 hown hgr hpl;have HOWN:=Lib.hid hown;have HGR:=Lib.hid hgr;have HPL:=Lib.hid hpl;clear hown hgr hpl)
  replace HX:=Lib.hid (HX.out.grown HGR.out (row_nw HO.out))
  replace HZ:=Lib.hid (Nat.lt_of_lt_of_le HZ.out HGR.out.size)
  replace HT:=Lib.hid (HT.out.grown HGR.out (fun k e => .inr (row_ge HO.out k e)))
  replace HST:=Lib.hid (ST1.push (K:=(fun t (u : Nd) ls s => clsK1 E f t (ndL ls) s)) HST.out HE.out HQ.out HO.out HGR.out HPL.out)
  replace HO:=HOWN
  clear LIE HGR HPL HOWN
  replace HST : Hid (ST E rr _ (fun t (u : Nd) ls s => (wantP E.L E.e ⟨#[123]⟩ s).bind fun _ s => (run E.L E.e f (.slotsL ls) s).bind (clsK2 E f t)) _ _ _ _ _):=HST.out
  replace HST : Hid (ST E rr _ (fun t (u : Nd) ls s => (wantP E.L E.e ⟨#[123]⟩ s).bind fun _ s => (run E.L E.e f (.slotsL ls) s).bind (clsK2 E f t)) _ _ _ _ _):=HST.out
  go_wp2_with fail
  refine (st_want (sr_ne HQ.out) _ HST.out).mono ?_
  rintro e w30 ⟨rfl,ht9,hst9⟩
  replace HX:=bT HX ht9 NE
  replace HO:=Lib.hid (HO.out.turned ht9 (row_ne HO.out HQ.out))
  replace HZ:=zT HZ ht9
  replace HT:=tT HT ht9
  replace HST:=Lib.hid hst9
  clear ht9 hst9
  go_wp2_with fail
  go_loopw [4,5,8] (fun v b u wr => ∃ (i : Nat) (q : Bool),u = .int .i64 (i : Int) ∧ b = .bool q ∧ i ≤ E.L.length ∧ XInv w E rr .slotsL (clsK2 E f) f 1 i v t wr) (fun _ _ u _ => E.L.length + 1 - (intOf u).toNat)
  case atStart => exact ⟨0,_,rfl,rfl,Nat.zero_le _,HT.out,HZ.out,HX.out,_,_,_,_,_,rfl,HO.out,by simp,f,Nat.le_refl _,HST.out.low (Nat.zero_le _)⟩
  case round =>
   clear HT HZ HX HO HST
   obtain ⟨i,q,rfl,rfl,hi,ht,hz,hx,A_r,n_r,c_r,xs_r,uv,rfl,ho,hl,g0,hg0,hst⟩:=hrel
   obtain ⟨g,hgf,hst⟩:=slots_open HO0.out hg0 hst
   have HT:=Lib.hid ht
   have HZ:=Lib.hid hz
   have HX:=Lib.hid hx
   have HO:=Lib.hid ho
   have HL:=Lib.hid hl
   have HST:=Lib.hid hst
   clear ht hz hx ho hl hst hg0
   have hwi : IntKind.i64.wrap ((i : Int) + 1) = (i : Int) + 1:=IntWalk.i64_in _ (by omega)
   obtain ⟨i8,d8,m8,c8,p8,hq8⟩:=HST.out.cells
   obtain ⟨z0,z1,z2,z3,z4,z5,z6,z7,z8,z9,z10,z11,zl⟩:=hq8.f7
   go_wp2_with fail
   clear z0 z1 z2 z3 z4 z5 z6 z7 z8 z9 z10 z11 zl hq8
   refine (st_sees (sr_ne HQ.out) _ HST.out).mono ?_
   rintro e w31 ⟨b9,rfl,ht9,hy9,hn9⟩
   replace HX:=bT HX ht9 NE
   replace HO:=Lib.hid (HO.out.turned ht9 (row_ne HO.out HQ.out))
   replace HZ:=zT HZ ht9
   replace HT:=tT HT ht9
   clear ht9 HST
   cases b9
   ·have HST:=Lib.hid (hn9 rfl)
    clear hy9 hn9
    replace HST : Hid (ST E rr _ (fun t (u : Nd) ls s => (run E.L E.e f (.methsL ls) s).bind (clsK3 E t)) _ _ _ _ _):=HST.out
    go_wp2_with fail
    go_loopw [4,5,11] (fun v b u wr => ∃ (j : Nat) (q : Bool),u = .int .i64 (j : Int) ∧ b = .bool q ∧ j ≤ E.L.length ∧ XInv w E rr .methsL (clsK3 E) f 5000 j v t wr) (fun _ _ u _ => E.L.length + 1 - (intOf u).toNat)
    case atStart => exact ⟨0,_,rfl,rfl,Nat.zero_le _,HT.out,HZ.out,HX.out,_,_,_,_,_,rfl,HO.out,by have:=HL.out;omega,f,Nat.le_refl _,HST.out.low (Nat.zero_le _)⟩
    case round =>
     clear HT HZ HX HO HST HL
     obtain ⟨j,q2,rfl,rfl,hj,ht,hz,hx,B_r,m_r,d_r,ys_r,uv2,rfl,ho,hl,g1,hg1,hst⟩:=hrel
     obtain ⟨g2,hgf2,hst⟩:=meths_open HO0.out hg1 hst
     have HT:=Lib.hid ht
     have HZ:=Lib.hid hz
     have HX:=Lib.hid hx
     have HO:=Lib.hid ho
     have HL:=Lib.hid hl
     have HST:=Lib.hid hst
     clear ht hz hx ho hl hst hg1
     have hwj : IntKind.i64.wrap ((j : Int) + 1) = (j : Int) + 1:=IntWalk.i64_in _ (by omega)
     obtain ⟨i8,d8,m8,c8,p8,hq8⟩:=HST.out.cells
     obtain ⟨z0,z1,z2,z3,z4,z5,z6,z7,z8,z9,z10,z11,zl⟩:=hq8.f7
     go_wp2_with fail
     clear z0 z1 z2 z3 z4 z5 z6 z7 z8 z9 z10 z11 zl hq8
     refine (st_sees (sr_ne HQ.out) _ HST.out).mono ?_
     rintro e w32 ⟨b9,rfl,ht9,hy9,hn9⟩
     replace HX:=bT HX ht9 NE
     replace HO:=Lib.hid (HO.out.turned ht9 (row_ne HO.out HQ.out))
     replace HZ:=zT HZ ht9
     replace HT:=tT HT ht9
     clear ht9 HST
     cases b9
     ·have HST:=Lib.hid (hn9 rfl)
      clear hy9 hn9
      replace HST : Hid (ST E rr _ (fun t (u : Nd) ls s => (wantP E.L E.e ⟨#[125]⟩ s).bind fun _ s => Res.ok (.mk 2 t.text 0 ls) ⟨s.i,s.dep,s.many + 1⟩) _ _ _ _ _):=HST.out
      go_wp2_with fail
      refine (st_want (sr_ne HQ.out) _ HST.out).mono ?_
      rintro e w33 ⟨rfl,ht9,hst9⟩
      replace HX:=bT HX ht9 NE
      replace HO:=Lib.hid (HO.out.turned ht9 (row_ne HO.out HQ.out))
      replace HZ:=zT HZ ht9
      replace HT:=tT HT ht9
      replace HST:=Lib.hid hst9
      clear ht9 hst9
      go_wp2_with fail
      replace HST : Hid (ST E rr _ (fun t u ls s => (fun t (u : Nd) ls s => Res.ok (.mk 2 t.text 0 ls) s) t u ls ⟨s.i,s.dep,s.many + 1⟩) _ _ _ _ _):=HST.out
      refine (st_node (sr_ne HQ.out) 2 _ _ _ _ HST.out).mono ?_
      rintro e w34 ⟨rfl,ht9,hst9⟩
      replace HX:=bT HX ht9 NE
      replace HO:=Lib.hid (HO.out.turned ht9 (row_ne HO.out HQ.out))
      replace HZ:=zT HZ ht9
      replace HT:=tT HT ht9
      replace HST:=Lib.hid hst9
      clear ht9 hst9
      obtain ⟨u0,u1,u2,u3,g0,g1,g2,g3,gl⟩:=HX.out.f4
      go_wp2_with fail
      clear u0 u1 u2 u3 g0 g1 g2 g3 gl
      have HEND:=Lib.hid (st_end HE.out HQ.out HT.out HO.out HX.out (fun t => t.text) (fun _ h => h.symm) (fun _ => 0) (fun _ _ => rfl) HST.out rfl)
      refine open_post (fun W => Blk W w.heap.size 24 #[.int .i64 2,.string t,.int .i64 0,.slice B_r m_r d_r] ∧ REnd E rr w (.returned (.agg #[.int .i64 2,.string t,.int .i64 0,.slice B_r m_r d_r])) W) HEND.out ?_
      rintro W ⟨hb,hE⟩
      obtain ⟨v0,v1,v2,v3,-⟩:=hb.f4
      exact bodyPost_ret (v:=.agg #[.int .i64 2,.string t,.int .i64 0,.slice B_r m_r d_r]) (by simp [results,Tryz.results68,go_sem,v0,v1,v2,v3]) rfl hE
     ·have HST:=Lib.hid (hy9 rfl)
      clear hy9 hn9
      obtain ⟨i9,hlo9,hi9,hfw9,⟨d9,m9,hq9⟩,hst9,ht9⟩:=STG.step (K:=(fun t (u : Nd) ls s => (run E.L E.e g2 .meth s).bind fun k s => (run E.L E.e g2 (.methsL (ls ++ [k])) s).bind (clsK3 E t))) HST.out (sr_ne HQ.out)
      have hw9 : IntKind.i64.wrap ((i9 : Int) + 1) = (i9 : Int) + 1:=IntWalk.i64_in _ (by omega)
      obtain ⟨z0,z1,z2,z3,z4,z5,z6,z7,z8,z9,z10,z11,zl⟩:=hq9.f7
      replace HX:=bT HX ht9 NE
      replace HO:=Lib.hid (HO.out.turned ht9 (row_ne HO.out HQ.out))
      replace HZ:=zT HZ ht9
      replace HT:=tT HT ht9
      replace HST:=Lib.hid hst9
      clear ht9 hst9
      go_wp2_with fail
      clear z0 z1 z2 z3 z4 z5 z6 z7 z8 z9 z10 z11 zl hw9 hq9
      generalize (World.setCell w32 ⟨E.Q,2,none⟩ (.int .i64 ((i9 : Int) + 1))) = w35 at *
      refine (sto_call (sr_ne HQ.out) (ihM g2 hgf2)  HO0.out (fun b hb => ⟨Nat.lt_of_lt_of_le HZ.out hb,fun e => Nat.lt_irrefl _ (Nat.lt_of_lt_of_le (HO.out.lt _ e).2 hb)⟩) HST.out).mono ?_
      rintro e w36 ⟨x_k,rfl,ht9,hst9⟩
      replace HX:=bT HX ht9 NE
      replace HO:=Lib.hid (HO.out.turned ht9 (row_ne HO.out HQ.out))
      replace HZ:=zT HZ ht9
      replace HT:=tT HT ht9
      replace HST:=Lib.hid hst9
      clear ht9 hst9
      obtain ⟨o9,ho9⟩:=oN x_k
      replace HX:=bA HX o9
      replace HO:=oA HO o9
      replace HST:=Lib.hid (HST.out.below (bl _ o9))
      replace HT:=tA HT o9
      replace HZ:=zA HZ o9
      have HZ0:=HZ
      replace HX:=bA HX o9
      replace HO:=oA HO o9
      replace HST:=Lib.hid (HST.out.below (bl _ o9))
      replace HT:=tA HT o9
      replace HZ:=zA HZ o9
      subst ho9
      have LIE:=lN2 w36 x_k
      have BD1 : Hid ((ys_r).length ≤ 1000000):=by have:=HL.out;show _ ≤ _;omega
      have BD2 : Hid ([x_k].length ≤ 1000000):=by show _ ≤ _;simp
      go_wp2_with (at_builtin;refine wpList_joinNd rfl _ _ rfl (w.heap.size + 1) _ _ rfl HO.out (some ⟨w36.heap.size + 1,0,none⟩) [x_k] 1 rfl LIE.out BD1.out BD2.out HZ.out ?_;intro A37 n38 c39 w40 hown hgr hpl;have HOWN:=Lib.hid hown;have HGR:=Lib.hid hgr;have HPL:=Lib.hid hpl;clear hown hgr hpl)
      replace HX:=Lib.hid (HX.out.grown HGR.out (row_nw HO.out))
      replace HZ:=Lib.hid (Nat.lt_of_lt_of_le HZ.out HGR.out.size)
      replace HT:=Lib.hid (HT.out.grown HGR.out (fun k e => .inr (row_ge HO.out k e)))
      replace HST:=Lib.hid (ST1.push (K:=(fun t (u : Nd) ls s => (run E.L E.e g2 (.methsL ls) s).bind (clsK3 E t))) HST.out HE.out HQ.out HO.out HGR.out HPL.out)
      replace HO:=HOWN
      clear LIE HGR HPL HOWN
      go_roundw
      case rel => exact ⟨j + 1,true,by go_num,rfl,by omega,HT.out,HZ.out,HX.out,_,_,_,_,_,rfl,HO.out,by have:=HL.out;simp;omega,g2,hgf2,HST.out.low (by omega)⟩
      case measure => simp [intOf];omega
   ·have HST:=Lib.hid (hy9 rfl)
    clear hy9 hn9
    obtain ⟨i9,hlo9,hi9,hfw9,⟨d9,m9,hq9⟩,hst9,ht9⟩:=STG.step (K:=(fun t (u : Nd) ls s => (nameP E.L E.e s).bind fun u s => (wantP E.L E.e ⟨#[59]⟩ s).bind fun _ s => (run E.L E.e g (.slotsL (ls ++ [.mk 3 u.text 0 []])) ⟨s.i,s.dep,s.many + 1⟩).bind (clsK2 E f t))) HST.out (sr_ne HQ.out)
    have hw9 : IntKind.i64.wrap ((i9 : Int) + 1) = (i9 : Int) + 1:=IntWalk.i64_in _ (by omega)
    obtain ⟨z0,z1,z2,z3,z4,z5,z6,z7,z8,z9,z10,z11,zl⟩:=hq9.f7
    replace HX:=bT HX ht9 NE
    replace HO:=Lib.hid (HO.out.turned ht9 (row_ne HO.out HQ.out))
    replace HZ:=zT HZ ht9
    replace HT:=tT HT ht9
    replace HST:=Lib.hid hst9
    clear ht9 hst9
    replace HST:=Lib.hid HST.out.st
    go_wp2_with fail
    clear z0 z1 z2 z3 z4 z5 z6 z7 z8 z9 z10 z11 zl hw9 hq9
    generalize (World.setCell w31 ⟨E.Q,2,none⟩ (.int .i64 ((i9 : Int) + 1))) = w41 at *
    refine (st_name2 (sr_ne HQ.out) HST.out).mono ?_
    rintro e w42 ⟨u2,rfl,ht9,hst9⟩
    replace HX:=bT HX ht9 NE
    replace HO:=Lib.hid (HO.out.turned ht9 (row_ne HO.out HQ.out))
    replace HZ:=zT HZ ht9
    replace HT:=tT HT ht9
    replace HST:=Lib.hid hst9
    clear ht9 hst9
    go_wp2_with fail
    refine (st_want (sr_ne HQ.out) _ HST.out).mono ?_
    rintro e w43 ⟨rfl,ht9,hst9⟩
    replace HX:=bT HX ht9 NE
    replace HO:=Lib.hid (HO.out.turned ht9 (row_ne HO.out HQ.out))
    replace HZ:=zT HZ ht9
    replace HT:=tT HT ht9
    replace HST:=Lib.hid hst9
    clear ht9 hst9
    go_wp2_with fail
    replace HST : Hid (ST E rr _ (fun t u ls s => (fun t u ls s => ((fun t (u : Nd) ls (n : Nd) s => (run E.L E.e g (.slotsL (ls ++ [n])) s).bind (clsK2 E f t))) t u ls (.mk 3 u.text 0 []) s) t u ls ⟨s.i,s.dep,s.many + 1⟩) _ _ _ _ _):=HST.out
    refine (st_node (sr_ne HQ.out) 3 _ _ _ _ HST.out).mono ?_
    rintro e w44 ⟨rfl,ht9,hst9⟩
    replace HX:=bT HX ht9 NE
    replace HO:=Lib.hid (HO.out.turned ht9 (row_ne HO.out HQ.out))
    replace HZ:=zT HZ ht9
    replace HT:=tT HT ht9
    replace HST:=Lib.hid hst9
    clear ht9 hst9
    replace HST:=Lib.hid (ST.leaf (K:=(fun t (u : Nd) ls (n : Nd) s => (run E.L E.e g (.slotsL (ls ++ [n])) s).bind (clsK2 E f t))) 3 0 HST.out)
    obtain ⟨o9,ho9⟩ : ∃ o : Obj,o = (.cells #[.int .i64 3,.string u2,.int .i64 0,.slice none 0 0] 24):=⟨_,rfl⟩
    replace HX:=bA HX o9
    replace HO:=oA HO o9
    replace HST:=Lib.hid (HST.out.below (bl _ o9))
    replace HT:=tA HT o9
    replace HZ:=zA HZ o9
    have HZ0:=HZ
    replace HX:=bA HX o9
    replace HO:=oA HO o9
    replace HST:=Lib.hid (HST.out.below (bl _ o9))
    replace HT:=tA HT o9
    replace HZ:=zA HZ o9
    subst ho9
    have LIE : Hid (LieN (World.alloc (World.alloc w44 (.cells #[.int .i64 3,.string u2,.int .i64 0,.slice none 0 0] 24)) (.cells #[.int .i64 3,.string u2,.int .i64 0,.slice none 0 0] 24)) (some ⟨w44.heap.size + 1,0,none⟩) [(⟨3,u2,0,none,0,0⟩ : NV)]):=by have h:=lie_new (World.alloc w44 (.cells #[.int .i64 3,.string u2,.int .i64 0,.slice none 0 0] 24)) [(⟨3,u2,0,none,0,0⟩ : NV)] #[.int .i64 3,.string u2,.int .i64 0,.slice none 0 0] 24 rfl;rw [World.size_alloc] at h;exact h
    have BD1 : Hid ((xs_r).length ≤ 1000000):=by have:=HL.out;show _ ≤ _;omega
    have BD2 : Hid ([(⟨3,u2,0,none,0,0⟩ : NV)].length ≤ 1000000):=by show _ ≤ _;simp
    go_wp2_with (at_builtin;refine wpList_joinNd rfl _ _ rfl (w.heap.size + 1) _ _ rfl HO.out (some ⟨w44.heap.size + 1,0,none⟩) [(⟨3,u2,0,none,0,0⟩ : NV)] 1 rfl LIE.out BD1.out BD2.out HZ.out ?_;intro A45 n46 c47 w48 hown hgr hpl;have HOWN:=Lib.hid hown;have HGR:=Lib.hid hgr;have HPL:=Lib.hid hpl;clear hown hgr hpl)
    replace HX:=Lib.hid (HX.out.grown HGR.out (row_nw HO.out))
    replace HZ:=Lib.hid (Nat.lt_of_lt_of_le HZ.out HGR.out.size)
    replace HT:=Lib.hid (HT.out.grown HGR.out (fun k e => .inr (row_ge HO.out k e)))
    replace HST:=Lib.hid (ST1.push (K:=(fun t (u : Nd) ls s => (run E.L E.e g (.slotsL ls) s).bind (clsK2 E f t))) HST.out HE.out HQ.out HO.out HGR.out HPL.out)
    replace HO:=HOWN
    clear LIE HGR HPL HOWN
    go_roundw
    case rel => exact ⟨i + 1,true,by go_num,rfl,by omega,HT.out,HZ.out,HX.out,_,_,_,_,_,rfl,HO.out,by have:=HL.out;simp;omega,g,hgf,HST.out.low (by omega)⟩
    case measure => simp [intOf];omega
end Go.Proofs.YtbpldfmmlgkfnaaGreatDoor
