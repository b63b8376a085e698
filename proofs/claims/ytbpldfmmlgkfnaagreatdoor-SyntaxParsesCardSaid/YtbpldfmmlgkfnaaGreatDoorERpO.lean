/- The document's parser: a number. Conditions: none. -/
import Derived.Test.YtbpldfmmlgkfnaaGreatDoorEMemZ
import Derived.Test.YtbpldfmmlgkfnaaGreatDoorERpF
import Derived.Test.YtbpldfmmlgkfnaaGreatDoorEPaSpec4
import Derived.BigQuiet
import Derived.BigRegion
namespace Go.Proofs.YtbpldfmmlgkfnaaGreatDoor
open Go.RowKit
set_option linter.unusedVariables false

theorem numF_app : ∀ (l1 l2 : List UInt8) (acc : Nat),numF acc (l1 ++ l2) = numF (numF acc l1) l2
 | [],l2,acc => rfl
 | b :: l1,l2,acc => numF_app l1 l2 _
theorem numF_pow : ∀ (l : List UInt8) (acc : Nat),acc * 10 ^ l.length ≤ numF acc l
 | [],acc => by
  show acc * 10 ^ 0 ≤ acc
  rw [Nat.pow_zero,Nat.mul_one]
  exact Nat.le_refl _
 | b :: l,acc => by
  have h:=numF_pow l (10 * acc + (b.toNat - 48))
  show acc * 10 ^ (l.length + 1) ≤ numF (10 * acc + (b.toNat - 48)) l
  refine Nat.le_trans ?_ h
  rw [Nat.pow_succ]
  generalize 10 ^ l.length = y
  rw [Nat.add_mul,Nat.mul_comm 10 acc,Nat.mul_assoc,Nat.mul_comm y 10]
  exact Nat.le_add_right _ _
theorem num_size {t : ByteArray} (h : OkT 2 t) : t.size ≤ 10:=by
 cases h with
 | num _ h0 hd hn h1 =>
  obtain ⟨b,l,e⟩:=cut_cons h0
  have hz:=size_len t
  rw [e] at hn hz
  rw [List.length_cons] at hz
  by_cases h2 : 1 < t.size
  ·have hb : bt t 0 = b:=by
    have:=bt_list (s:=t) (j:=0) (h:=by rw [e];simp)
    rw [← this];simp [e]
   have h3:=h1 h2
   have h4:=hd 0 (by omega)
   rw [hb] at h3 h4
   have h5 : 1 ≤ 10 * 0 + (b.toNat - 48):=by
    have h6 : b.toNat ≠ 48:=fun h => h3 (UInt8.toNat_inj.1 h)
    simp only [isDg,Bool.and_eq_true,decide_eq_true_eq] at h4
    omega
   have h7:=numF_pow l (10 * 0 + (b.toNat - 48))
   have h8 : 10 ^ l.length ≤ (10 * 0 + (b.toNat - 48)) * 10 ^ l.length:=Nat.le_mul_of_pos_left _ (by omega)
   have h9 : 10 ^ l.length ≤ 1073741823:=Nat.le_trans h8 (Nat.le_trans h7 hn)
   have h10 : l.length ≤ 9:=by
    refine Decidable.byContradiction fun hh => ?_
    have : 10 ^ 10 ≤ 10 ^ l.length:=Nat.pow_le_pow_right (by decide) (by omega)
    have h11 : (10 : Nat) ^ 10 = 10000000000:=by decide
    omega
   omega
  ·omega
theorem num_take {t : ByteArray} {j : Nat} (hj : j < t.size) : numF 0 (t.data.toList.take (j + 1)) = 10 * numF 0 (t.data.toList.take j) + ((bt t j).toNat - 48):=by
 have hz:=size_len t
 have hj2 : j < t.data.toList.length:=by omega
 rw [List.take_add_one,List.getElem?_eq_getElem hj2,numF_app,bt_list]
 rfl
theorem num_takele (t : ByteArray) (j : Nat) : numF 0 (t.data.toList.take j) ≤ numF 0 t.data.toList:=by
 have h:=numF_app (t.data.toList.take j) (t.data.toList.drop j) 0
 rw [List.take_append_drop] at h
 rw [h]
 exact numF_ge _ _
theorem dg_nat {b : UInt8} (h : isDg b = true) : 48 ≤ b.toNat ∧ b.toNat ≤ 57:=by
 simpa [isDg] using h
theorem num_in {t : ByteArray} (h : OkT 2 t) : ∀ j,j < t.size → isDg (bt t j) = true:=by
 cases h with
 | num _ h0 hd hn h1 => exact hd
/-- A box far from the parser, one cell turned. -/
theorem far_one {w W : World} {E : Env} {s : PS} {R : Nat} (h0 : EnvOk w E) (hQ : E.Q < w.heap.size) (ht : Turned w W (fun b => b = E.Q)) (hR : w.heap.size < R) (hs : RGood W E s) (i : Nat) (v : Value) (k : Nat) :
  Turned w ((W.setCell ⟨R,i,none⟩ v).drewN k) (fun b => b = E.Q) ∧ RGood ((W.setCell ⟨R,i,none⟩ v).drewN k) E s:=by
 refine ⟨(ht.setCell (p:=⟨R,i,none⟩) (.inr (Nat.le_of_lt hR)) v).drewN k,?_⟩
 have h1 : RGood (W.setCell ⟨R,i,none⟩ v) E s:=RAt.far (r:=.ok nd0 s) (R:=R) hs h0 (Nat.le_of_lt hR) hQ (fun k hk => Below.heap_setCell _ ⟨R,i,none⟩ _ _ hk) (by simp [World.setCell])
 exact h1.below (belowN _ _ _)
set_option maxRecDepth 100000 in
set_option maxHeartbeats 3200000 in
theorem rprimary_num {f : Nat} {E : Env} {s : PS} {w : World} (h : RGood w E s) (a2 : isP E.L 2 s = true) : Calls Tryz.prog 143 #[.pointer (some ⟨E.Q,0,none⟩)] w (REnd E (run E.L E.e (f + 1) .primary s) w):=by
 have hE : RAt w E (.ok nd0 s):=h
 have hlt:=is_lt a2
 have hv : textP E.L s = E.L[s.i].text:=by unfold textP;rw [List.getElem?_eq_getElem hlt]
 have hok : OkT 2 (textP E.L s):=text_ok h.env.okt a2
 have hr : run E.L E.e (f + 1) .primary s = .ok (.mk 26 ⟨#[]⟩ (numF 0 (textP E.L s).data.toList : Nat) []) ⟨(stepP s).i,(stepP s).dep,(stepP s).many + 1⟩:=by
  simp only [run,nodeP,tx_nil,a2,if_true]
 rw [hr]
 have HV:=Lib.hid hv
 generalize textP E.L s = t at *
 have hz:=num_size hok
 have hdg:=num_in hok
 have hle:=num_le hok
 have HE:=Lib.hid hE.env
 have HQ:=Lib.hid hE.old
 have NE : Hid (¬ w.heap.size = E.Q):=by have:=hE.old;show ¬ _;omega
 obtain ⟨o9,ho9⟩:=oZ
 have hb0:=bl w o9
 have HS:=Lib.hid (h.below hb0)
 have HT:=Lib.hid (Turned.of_below (fun b => b = E.Q) hb0)
 have HX:=zB w
 have HZ:=zN w o9
 subst ho9
 have HDG:=Lib.hid hdg
 have HLE:=Lib.hid hle
 clear h hE hb0 hr hok hv hdg hle
 have A2:=Lib.hid a2
 clear a2
 go_enter Tryz.func143,Tryz.ntmps143
 go_wp2_with fail
 generalize (w.alloc (.cells #[.int .i64 0,.string ⟨#[]⟩,.int .i64 0,.slice none 0 0] 24)) = w1 at *
 refine (ris_is HS.out A2.out).mono ?_
 rintro e w2 ⟨rfl,hb9⟩
 have ht9:=Turned.of_below (fun b => b = E.Q) hb9
 have hs9:=HS.out.below hb9
 clear hb9
 replace HX:=bT HX ht9 NE
 replace HZ:=zT HZ ht9
 replace HT:=tT HT ht9
 replace HS:=Lib.hid hs9
 clear ht9 hs9
 have hfew:=HS.out.env.few
 obtain ⟨x0,x1,x2,x3,x4,x5,x6,f2,f3,f4,f5,f6,xl⟩:=HS.out.blk.f7
 obtain ⟨b,o,hA,hbl,hc⟩:=HS.out.env.toks (by omega)
 obtain ⟨y1,y2,y3⟩:=hc s.i hlt
 have hw : IntKind.i64.wrap ((s.i : Int) + 1) = (s.i : Int) + 1:=IntWalk.i64_in _ (by omega)
 rw [hA] at x0
 rw [← HV.out] at y2
 clear hc hA
 go_wp2_with fail
 go_quiet (fail)
 go_wp2_with fail
 clear y1 y2 y3
 have hst:=(HS.out.below (belowN w2.heap.size w2 nq)).step hlt
 have hs9:=hst.1
 have ht9:=(Turned.of_below (fun b => b = E.Q) (belowN w2.heap.size w2 nq)).then hst.2
 clear hst x0 x1 x2 x3 x4 x5 x6 f2 f3 f4 f5 f6 xl hw
 generalize (World.setCell (w2.drewN nq) ⟨E.Q,2,none⟩ (.int .i64 ((s.i : Int) + 1))) = w3 at *
 replace HX:=bT HX ht9 NE
 replace HZ:=zT HZ ht9
 replace HT:=tT HT ht9
 replace HS:=Lib.hid hs9
 clear ht9 hs9
 refine (rnode_any (r:=.ok nd0 _) 26 _ _ _ _ HS.out).mono ?_
 rintro e w4 ⟨rfl,ht9,hs9⟩
 have hs9 : RGood _ _ _:=hs9 nd0
 replace HX:=bT HX ht9 NE
 replace HZ:=zT HZ ht9
 replace HT:=tT HT ht9
 replace HS:=Lib.hid hs9
 clear ht9 hs9
 have HB:=Lib.hid (Blk.new w4 24 #[.int .i64 26,.string ⟨#[]⟩,.int .i64 0,.slice none 0 0])
 have NB : Hid (w.heap.size < w4.heap.size):=HZ
 obtain ⟨o9,ho9⟩ : ∃ o : Obj,o = (.cells #[.int .i64 26,.string ⟨#[]⟩,.int .i64 0,.slice none 0 0] 24):=⟨_,rfl⟩
 replace HX:=bA HX o9
 replace HS:=Lib.hid (HS.out.below ((Below.refl w4.heap.size w4).alloc (Nat.le_refl _) o9))
 replace HT:=tA HT o9
 replace HZ:=zA HZ o9
 subst ho9
 go_wp2_with fail
 generalize (World.alloc w4 (.cells #[.int .i64 26,.string ⟨#[]⟩,.int .i64 0,.slice none 0 0] 24)) = w5 at *
 generalize w4.heap.size = b1 at *
 go_loopw [6] (fun v wr => ∃ j : Nat,v = .int .i64 (j : Int) ∧ j ≤ t.size ∧ Turned w wr (fun b => b = E.Q) ∧ w.heap.size < wr.heap.size ∧ Blk wr w.heap.size 24 #[.int .i64 0,.string ⟨#[]⟩,.int .i64 0,.slice none 0 0] ∧ Blk wr b1 24 #[.int .i64 26,.string ⟨#[]⟩,.int .i64 (numF 0 (t.data.toList.take j) : Nat),.slice none 0 0] ∧ RGood wr E ⟨(stepP s).i,(stepP s).dep,(stepP s).many + 1⟩) (fun v _ => t.size - (intOf v).toNat)
 case atStart => exact ⟨0,rfl,Nat.zero_le _,HT.out,HZ.out,HX.out,HB.out,HS.out⟩
 case round =>
  clear HT HZ HX HB HS
  obtain ⟨j,rfl,hj,ht,hz1,hx,hb,hs⟩:=hrel
  have HT:=Lib.hid ht
  have HZ:=Lib.hid hz1
  have HX:=Lib.hid hx
  have HB:=Lib.hid hb
  have HS:=Lib.hid hs
  clear ht hz1 hx hb hs
  by_cases hjz : j = t.size
  ·subst hjz
   have htk : t.data.toList.take t.size = t.data.toList:=by rw [← size_len];exact List.take_length
   obtain ⟨u0,u1,u2,u3,g0,g1,g2,g3,gl⟩:=HX.out.f4
   obtain ⟨y0,y1,y2,y3,e0,e1,e2,e3,el⟩:=HB.out.f4
   rw [htk] at y2
   clear htk
   go_wp2_with fail
   clear u0 u1 u2 u3 g0 g1 g2 g3 gl y0 y1 y2 y3 e0 e1 e2 e3 el
   refine open_post (EndG w E _ ⟨26,⟨#[]⟩,(numF 0 t.data.toList : Nat),none,0,0⟩ (.mk 26 ⟨#[]⟩ (numF 0 t.data.toList : Nat) [])) (end_good HE.out HQ.out HT.out HS.out HX.out (x:=⟨26,⟨#[]⟩,(numF 0 t.data.toList : Nat),none,0,0⟩) (n:=(.mk 26 ⟨#[]⟩ (numF 0 t.data.toList : Nat) [])) ⟨⟨rfl,rfl,rfl,rfl⟩,Nodes.nil none⟩ (S:=(fun b => w.heap.size < b)) (fun b h => h)) ?_
   rintro W hE
   obtain ⟨v0,v1,v2,v3,-⟩:=hE.blk.f4
   exact bodyPost_ret (v:=nvA ⟨26,⟨#[]⟩,(numF 0 t.data.toList : Nat),none,0,0⟩) (by simp [results,Tryz.results143,go_sem,v0,v1,v2,v3]) rfl (hE.done rfl)
  ·have hjl : j < t.size:=by omega
   have hji : (j : Int) < (t.size : Int):=by omega
   obtain ⟨d1,d2⟩:=dg_nat (HDG.out j hjl)
   have hle1:=num_takele t (j + 1)
   have hle2:=HLE.out
   have htk:=num_take hjl
   have HTK:=Lib.hid htk
   have hwj : IntKind.i64.wrap ((j : Int) + 1) = (j : Int) + 1:=IntWalk.i64_in _ (by omega)
   have hcv : IntKind.i64.wrap ((((bt t j).toNat : Nat) : Int)) = (((bt t j).toNat : Nat) : Int):=IntWalk.i64_in _ (by omega)
   have hm : IntKind.i64.wrap (10 * ((numF 0 (t.data.toList.take j) : Nat) : Int)) = 10 * ((numF 0 (t.data.toList.take j) : Nat) : Int):=IntWalk.i64_in _ (by omega)
   have hm2 : IntKind.i64.wrap (10 * ((numF 0 (t.data.toList.take j) : Nat) : Int) + (((bt t j).toNat : Nat) : Int)) = 10 * ((numF 0 (t.data.toList.take j) : Nat) : Int) + (((bt t j).toNat : Nat) : Int):=IntWalk.i64_in _ (by omega)
   have hm3 : IntKind.i64.wrap (10 * ((numF 0 (t.data.toList.take j) : Nat) : Int) + (((bt t j).toNat : Nat) : Int) - 48) = ((numF 0 (t.data.toList.take (j + 1)) : Nat) : Int):=(IntWalk.i64_in _ (by omega)).trans (by omega)
   have hb9:=HB.out.set_ 2 (.int .i64 ((numF 0 (t.data.toList.take (j + 1)) : Nat) : Int))
   have HB9:=Lib.hid hb9
   clear htk hle1 hle2 hb9
   generalize hn1 : numF 0 (t.data.toList.take (j + 1)) = n1 at *
   have HN1:=Lib.hid hn1
   clear hn1 HTK
   generalize numF 0 (t.data.toList.take j) = n0 at *
   obtain ⟨y0,y1,y2,y3,e0,e1,e2,e3,el⟩:=HB.out.f4
   go_wp2_with fail
   go_region
   obtain ⟨f1,f2⟩:=far_one HE.out HQ.out HT.out NB.out HS.out 2 (.int .i64 (n1 : Int)) 1
   have hx9:=(HX.out.far (p:=⟨b1,2,none⟩) (fun e => Nat.lt_irrefl w.heap.size (by have h1 : w.heap.size = b1:=e;have h2:=NB.out;omega)) (.int .i64 (n1 : Int))).drewN 1
   have hb9:=HB9.out.drewN 1
   have hz9 : w.heap.size < ((wr.setCell ⟨b1,2,none⟩ (.int .i64 (n1 : Int))).drewN 1).heap.size:=by
    show w.heap.size < (wr.setCell ⟨b1,2,none⟩ (.int .i64 (n1 : Int))).heap.size
    simp [World.setCell];exact HZ.out
   have HF:=Lib.hid (And.intro f1 (And.intro f2 (And.intro hx9 (And.intro hb9 hz9))))
   clear f1 f2 hx9 hb9 hz9 y0 y1 y2 y3 e0 e1 e2 e3 el hm hm2 hm3 hcv
   change Exit.inBlock _ _ _ _ ((wr.setCell ⟨b1,2,none⟩ (.int .i64 (n1 : Int))).drewN 1)
   generalize ((wr.setCell ⟨b1,2,none⟩ (.int .i64 (n1 : Int))).drewN 1) = w9 at *
   go_wp2_with fail
   go_roundw
   case rel => exact ⟨j + 1,by go_num,hjl,HF.out.1,HF.out.2.2.2.2,HF.out.2.2.1,by rw [HN1.out];exact HF.out.2.2.2.1,HF.out.2.1⟩
   case measure => simp [intOf];omega
end Go.Proofs.YtbpldfmmlgkfnaaGreatDoor
