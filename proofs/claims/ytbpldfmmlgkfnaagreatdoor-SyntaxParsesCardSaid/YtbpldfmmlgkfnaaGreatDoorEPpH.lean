/- The program's parser: chains of signs from the left. Conditions: what the level below does. -/
import Derived.Test.YtbpldfmmlgkfnaaGreatDoorEMemZ
import Derived.Test.YtbpldfmmlgkfnaaGreatDoorEPpG
import Derived.Deep.RegionLaw
import Derived.Test.YtbpldfmmlgkfnaaGreatDoorEPaSpec4
namespace Go.Proofs.YtbpldfmmlgkfnaaGreatDoor
open Go.RowKit Go.Maps Go.MapKept Go.ChangeMaps
set_option linter.unusedVariables false
theorem sees_sign {L : List Tok} {s : PS} {k : ByteArray} (hok : ∀ t ∈ L,OkT t.kind t.text) (hk : ∀ t : ByteArray,OkT 3 t → t.toList ≠ k.toList) : seesP L k s = (isP L 4 s && (textP L s).toList == k.toList):=by
 unfold seesP isP textP sameT
 cases e : L[s.i]? with
 | none => rfl
 | some t =>
  have hm:=List.mem_of_getElem? e
  have ho:=hok t hm
  dsimp only
  by_cases h3 : t.kind = 3
  ·rw [h3] at ho ⊢
   have:=hk _ ho
   have h2 : (t.text.toList == k.toList) = false:=by simpa using this
   rw [h2];simp
  ·have h2 : (t.kind == 3) = false:=by simpa using h3
   rw [h2,Bool.false_or,Bool.and_comm]
theorem word_not (c : UInt8) (hc : isLt c = false) (t : ByteArray) (h : OkT 3 t) : t.toList ≠ (⟨#[c]⟩ : ByteArray).toList:=by
 intro e
 rw [ByteArray.toList_eq,ByteArray.toList_eq] at e
 cases h with
 | word _ h1 h2 =>
  have h3:=h1.first
  unfold bt at h3
  rw [e] at h3
  rw [show ((⟨#[c]⟩ : ByteArray).data.toList.getD 0 0) = c from rfl,hc] at h3
  cases h3
theorem sign_size {t : ByteArray} (h : OkT 4 t) : t.size ≤ 4000:=by
 cases h with
 | sign _ h1 h2 => omega
 | same _ h1 h2 h3 => omega
theorem PAt.headT {w : World} {E : Env} {s : PS} (h : PAt w E s) (hlt : s.i < E.L.length) : ∃ b o c,Blk w E.Q pT #[.slice (some ⟨b,o,none⟩) (E.L.length - s.i) c,.int .i64 (E.e : Nat),.int .i64 s.dep,.int .i64 (wrap64 (s.many : Nat))] ∧ w.cell? ⟨b,o + 1,none⟩ = some (.string (textP E.L s)):=by
 obtain ⟨b,o,c,hb,-,-,-,-,h2,-⟩:=h.head hlt
 have hv : textP E.L s = E.L[s.i].text:=by
  unfold textP
  rw [List.getElem?_eq_getElem hlt]
 exact ⟨b,o,c,hb,by rw [hv];exact h2⟩
theorem way_open {E : Env} {rr : Res} {w w' : World} {Q : Value → World → Prop} {e : Ending} (h : Way E rr w Q e w') : Turned w w' (fun b => b = E.Q) ∧ ((∃ v,e = .returned v ∧ Q v w') ∨ (∃ c p,rr = .no c p ∧ c ≠ 0 ∧ e = thrown c p)):=h
theorem throw_out {P : Program} {F : Func} {Q : Ending → World → Prop} {c : Int} {p : Nat} {a : Act} {w : World} (hd : a.defers = []) (h : Q (thrown c p) w) : bodyPost P F Q (.panic [{ v:=wrongV c p,recovered:=false }]) a w:=⟨hd,h⟩
theorem throw_end {E : Env} {rr : Res} {w w' : World} {c : Int} {p : Nat} (ht : Turned w w' (fun b => b = E.Q)) (hr : rr = .no c p) (hc : c ≠ 0) : PEnd E rr w (thrown c p) w':=⟨ht,.inr ⟨c,p,hr,hc,rfl⟩⟩
/-- A node in a box of its own, kept out of the way. -/
def XInv1 (w : World) (E : Env) (rr : Res) (b1 : Nat) (K : Nat → Nd → PS → Res) (f gk : Nat) (wr : World) : Prop :=
 Turned w wr (fun b => b = E.Q) ∧ w.heap.size < wr.heap.size ∧ Blk wr w.heap.size 24 #[.int .i64 0,.string ⟨#[]⟩,.int .i64 0,.slice none 0 0] ∧
  ∃ (x : NV) (g i : Nat) (n : Nd) (s : PS),Blk wr b1 24 #[.int .i64 x.kind,.string x.text,.int .i64 x.num,.slice x.a x.len x.cap] ∧ g ≤ f ∧ E.L.length - s.i ≤ gk ∧ rr = K g n s ∧ PAt wr E s ∧ IsN wr (SB w b1) x n
/-- What is made is kept in its box. -/
theorem pt_box {w W W2 : World} {E : Env} {rr : Res} {K : Nd → PS → Res} {kd : Int} {tx tv uv : ByteArray} {xs : List NV} {lo b1 : Nat} {A : Option Addr} {n c : Nat} {u0 u1 u2 u3 : Value} (T : Nd → Nd → ByteArray) (hT : ∀ t u : Nd,tv = t.text → uv = u.text → T t u = tx) (hQ : E.Q < w.heap.size) (ht : Turned w W (fun b => b = E.Q)) (ho : OwnN W (w.heap.size + 1) (.slice A n c) xs)
  (hb : Blk W b1 24 #[u0,u1,u2,u3]) (hb1 : w.heap.size < b1) (hnb : ∀ k,(Value.slice A n c).ownBlock = some k → k ≠ b1) (h : PT E rr W (fun t u ls s => K (.mk kd (T t u) 0 ls) s) tv uv xs (SR2 w b1 (.slice A n c)) lo)
  (hW2 : W2 = ((((W.setCell ⟨b1,0,none⟩ (.int .i64 kd)).setCell ⟨b1,1,none⟩ (.string tx)).setCell ⟨b1,2,none⟩ (.int .i64 0)).setCell ⟨b1,3,none⟩ (.slice A n c))) :
  Turned w W2 (fun b => b = E.Q) ∧ W2.heap.size = W.heap.size ∧ Blk W2 b1 24 #[.int .i64 kd,.string tx,.int .i64 0,.slice A n c] ∧ (∀ k t cs,k ≠ b1 → Blk W k t cs → Blk W2 k t cs) ∧
   ∃ m s,rr = K m s ∧ PAt W2 E s ∧ IsN W2 (SB w b1) ⟨kd,tx,0,A,n,c⟩ m ∧ lo ≤ s.i:=by
 obtain ⟨h1,h2,h3,h4⟩:=box_node ht hb (Nat.le_of_lt hb1) (.int .i64 kd) (.string tx) (.int .i64 0) (.slice A n c)
 subst hW2
 refine ⟨h1,h4,h2,fun k t cs hk hc => (h3 k hk).trans hc,?_⟩
 obtain ⟨t,u,ls,s,k1,k2,k3,k4,k5,hl⟩:=h
 obtain ⟨A9,c9,e9,-,hn9⟩:=ho.nodes (S':=SB w b1) k5 (fun b h => ⟨h.1,h.2.1⟩) (fun k hk => ⟨row_gt ho k hk,hnb k hk⟩)
 cases e9
 have hx : IsN W (SB w b1) ⟨kd,tx,0,A,ls.length,c⟩ (.mk kd (T t u) 0 ls):=⟨⟨rfl,(hT t u k3 k4).symm,rfl,rfl⟩,hn9⟩
 exact ⟨_,s,k1,k2.kept (Nat.le_of_eq h4.symm) (fun k hk => h3 k (by omega)),hx.kept (Nat.le_of_eq h4.symm) (fun b _ hb => h3 b hb.2) (fun b _ hb => hb),hl⟩

/-- Behind the call of the level below: the two nodes are laid in a row. -/
theorem chain_next {w w4 w9 : World} {E : Env} {rr : Res} {K : Nd → Nd → List Nd → PS → Res} {tv uv : ByteArray} {x_m x_k : NV} {lo b1 : Nat} {u0 u1 u2 u3 y0 y1 y2 y3 : Value} (hQ : E.Q < w.heap.size) (ht : Turned w w4 (fun b => b = E.Q)) (ht9 : Turned w4 w9 (fun b => b = E.Q)) (hx : Blk w4 w.heap.size 24 #[u0,u1,u2,u3]) (hb : Blk w4 b1 24 #[y0,y1,y2,y3]) (hb1 : w.heap.size < b1)
  (h : PT1 E rr w9 (fun t u ls k s => K t u (ls ++ [k]) s) tv uv [x_m] x_k (SB w b1) lo) : Blk w9 w.heap.size 24 #[u0,u1,u2,u3] ∧ Blk w9 b1 24 #[y0,y1,y2,y3] ∧ Turned w w9 (fun b => b = E.Q) ∧
  OwnN (w9.alloc (.cells #[.int .i64 x_m.kind,.string x_m.text,.int .i64 x_m.num,.slice x_m.a x_m.len x_m.cap,.int .i64 x_k.kind,.string x_k.text,.int .i64 x_k.num,.slice x_k.a x_k.len x_k.cap] 24)) (w.heap.size + 1) (.slice (some ⟨w9.heap.size,0,none⟩) 2 2) [x_m,x_k] ∧
  PT E rr (w9.alloc (.cells #[.int .i64 x_m.kind,.string x_m.text,.int .i64 x_m.num,.slice x_m.a x_m.len x_m.cap,.int .i64 x_k.kind,.string x_k.text,.int .i64 x_k.num,.slice x_k.a x_k.len x_k.cap] 24)) K tv uv [x_m,x_k] (SR2 w b1 (.slice (some ⟨w9.heap.size,0,none⟩) 2 2)) lo:=by
 have hz : w.heap.size < w9.heap.size:=Nat.lt_of_lt_of_le (Nat.lt_trans hb1 hb.lt) ht9.size
 refine ⟨ht9.blk hx (fun e => by have h1 : w.heap.size = E.Q:=e;omega),ht9.blk hb (fun e => by have h1 : b1 = E.Q:=e;omega),ht.then ht9,OwnN.new w9 (w.heap.size + 1) [x_m,x_k] (by simp) (by simp) hz _ rfl,?_⟩
 exact (PT.weak (PT1.two h) (fun b hb h => ⟨h.1,h.2,fun e => Nat.lt_irrefl _ (Option.some.inj e ▸ hb)⟩)).alloc _
def sumStep (E : Env) (g : Nat) (kd : Int) (n : Nd) (s : PS) : Res:=(run E.L E.e g .term s).bind fun k s => run E.L E.e g (.sumL (.mk kd ⟨#[]⟩ 0 [n,k])) ⟨s.i,s.dep,s.many + 1⟩
theorem sum_eq (E : Env) (g : Nat) (n : Nd) (s : PS) : run E.L E.e (g + 1) (.sumL n) s = if seesP E.L ⟨#[43]⟩ s = true then sumStep E g 20 n (stepP s) else if seesP E.L ⟨#[45]⟩ s = true then sumStep E g 21 n (stepP s) else .ok n s:=by
 simp only [run,nodeP,tx_nil,tx_add,tx_sub,ok_bind,sumStep]
theorem sum_hit0 {E : Env} {g : Nat} {n : Nd} {s : PS} (hok : ∀ t ∈ E.L,OkT t.kind t.text) (h4 : isP E.L 4 s = true) (ht : textP E.L s = ⟨#[43]⟩) : run E.L E.e (g + 1) (.sumL n) s = sumStep E g 20 n (stepP s):=by
 rw [sum_eq]
 have hs : seesP E.L ⟨#[43]⟩ s = true:=by
  rw [sees_sign hok (word_not _ (by decide)),h4,ht];simp
 rw [if_pos hs]
theorem sum_hit1 {E : Env} {g : Nat} {n : Nd} {s : PS} (hok : ∀ t ∈ E.L,OkT t.kind t.text) (h4 : isP E.L 4 s = true) (ht : textP E.L s = ⟨#[45]⟩) : run E.L E.e (g + 1) (.sumL n) s = sumStep E g 21 n (stepP s):=by
 rw [sum_eq]
 have hs : seesP E.L ⟨#[45]⟩ s = true:=by
  rw [sees_sign hok (word_not _ (by decide)),h4,ht];simp
 rw [if_neg (by rw [sees_excl (k1:=⟨#[45]⟩) (by decide +kernel) hs];decide)]
 rw [if_pos hs]
theorem sum_miss {E : Env} {g : Nat} {n : Nd} {s : PS} (hok : ∀ t ∈ E.L,OkT t.kind t.text) (h : isP E.L 4 s = false ∨ (textP E.L s ≠ ⟨#[43]⟩ ∧ textP E.L s ≠ ⟨#[45]⟩)) : run E.L E.e (g + 1) (.sumL n) s = .ok n s:=by
 rw [sum_eq]
 have hs0 : seesP E.L ⟨#[43]⟩ s = false:=by
  rw [sees_sign hok (word_not _ (by decide))]
  rcases h with h | h
  ·rw [h];rfl
  ·have h2 : ((textP E.L s).toList == (⟨#[43]⟩ : ByteArray).toList) = false:=by
    rw [show (⟨#[43]⟩ : ByteArray).toList = [43] by rw [ByteArray.toList_eq]]
    exact beq_one h.1
   rw [h2,Bool.and_false]
 have hs1 : seesP E.L ⟨#[45]⟩ s = false:=by
  rw [sees_sign hok (word_not _ (by decide))]
  rcases h with h | h
  ·rw [h];rfl
  ·have h2 : ((textP E.L s).toList == (⟨#[45]⟩ : ByteArray).toList) = false:=by
    rw [show (⟨#[45]⟩ : ByteArray).toList = [45] by rw [ByteArray.toList_eq]]
    exact beq_one h.2
   rw [h2,Bool.and_false]
 rw [if_neg (by rw [hs0];decide),if_neg (by rw [hs1];decide)]
set_option maxRecDepth 100000 in
set_option maxHeartbeats 3200000 in
theorem pchain_sum {f : Nat} (ihT : ∀ g,g ≤ f → PCall g .term 126) {E : Env} {s : PS} {w : World} {M : Nat} (h : PAt w E s) (hM : w.heap[M]? = some (.map #[ent ⟨#[43]⟩ 20 0,ent ⟨#[45]⟩ 21 1] 2)) (hMQ : E.Q < M) (hMl : M < w.heap.size) (hout : run E.L E.e (f + 1) .sum s ≠ .out) : Calls Tryz.prog 125 #[.pointer (some ⟨E.Q,0,none⟩),.func (.func 126) #[.pointer (some ⟨E.Q,0,none⟩)] #[],.map (some M)] w (PEnd E (run E.L E.e (f + 1) .sum s) w):=by
 have HM:=Lib.hid hM
 have NM : Hid (¬ M = E.Q):=by show ¬ _;omega
 have HML:=Lib.hid hMl
 clear hM hMQ hMl
 have HO0:=Lib.hid hout
 generalize hrr : run E.L E.e (f + 1) .sum s = rr at *
 have hr : rr = (fun (_ _ : Nd) (_ : List Nd) s => (run E.L E.e f .term s).bind fun n s => (fun (_ _ : Nd) (_ : List Nd) n s => run E.L E.e f (.sumL n) s) nd0 nd0 [] n s) nd0 nd0 [] s:=by rw [← hrr];simp only [run]
 clear hrr hout
 have HQ:=Lib.hid h.old
 have NE : Hid (¬ w.heap.size = E.Q):=by have:=h.old;show ¬ _;omega
 have hfew:=h.few
 obtain ⟨o9,ho9⟩:=oZ
 have hb0:=bl w o9
 have HT:=Lib.hid (Turned.of_below (fun b => b = E.Q) hb0)
 have HX:=zB w
 have HZ:=zN w o9
 have HO:=Lib.hid (OwnN.nil (w.alloc o9) (w.heap.size + 1))
 subst ho9
 have HST : Hid (PT E rr (w.alloc (.cells #[.int .i64 0,.string ⟨#[]⟩,.int .i64 0,.slice none 0 0] 24)) (fun (_ _ : Nd) (_ : List Nd) s => (run E.L E.e f .term s).bind fun n s => (fun (_ _ : Nd) (_ : List Nd) n s => run E.L E.e f (.sumL n) s) nd0 nd0 [] n s) ByteArray.empty ByteArray.empty [] (SR w (.slice none 0 0)) 0):=PT.below (K:=(fun (_ _ : Nd) (_ : List Nd) s => (run E.L E.e f .term s).bind fun n s => (fun (_ _ : Nd) (_ : List Nd) n s => run E.L E.e f (.sumL n) s) nd0 nd0 [] n s)) ⟨nd0,nd0,[],s,hr,h,rfl,rfl,AllN.nil _ _,Nat.zero_le _⟩ hb0
 clear h hb0 hr
 go_enter Tryz.func125,Tryz.ntmps125
 have hok:=HST.out.at.elim (fun s h => h.1.okt)
 have HOK:=Lib.hid hok
 clear hok
 go_wp2_with fail
 (try rw [← (show (w.alloc (.cells #[.int .i64 0,.string ⟨#[]⟩,.int .i64 0,.slice none 0 0] 24)).heap.size = _ from World.size_alloc _ _)])
 generalize (w.alloc (.cells #[.int .i64 0,.string ⟨#[]⟩,.int .i64 0,.slice none 0 0] 24)) = w1 at *
 refine (pt_call (sr_ne HQ.out) (ihT f (Nat.le_refl f)) HO0.out (fun b hb => ⟨Nat.lt_of_lt_of_le HZ.out hb,fun e => Nat.lt_irrefl _ (Nat.lt_of_lt_of_le (HO.out.lt _ e).2 hb)⟩) HST.out).mono ?_
 rintro e w2 ⟨ht9,⟨v9,rfl,x_n,rfl,hst9⟩ | ⟨c9,p9,hr9,hc9,rfl⟩⟩
 rotate_left
 ·exact ⟨rfl,HT.out.then ht9,.inr ⟨_,_,hr9,hc9,rfl⟩⟩
 replace HX:=bT HX ht9 NE
 replace HO:=Lib.hid (HO.out.turned ht9 (row_ne HO.out HQ.out))
 replace HZ:=zT HZ ht9
 replace HT:=tT HT ht9
 replace HST:=Lib.hid hst9
 clear ht9 hst9
 obtain ⟨t1,u1,ls1,n1,s1,k1,k2,-,-,-,k6,-⟩:=HST.out
 have HB:=Lib.hid (Blk.new w2 24 #[.int .i64 x_n.kind,.string x_n.text,.int .i64 x_n.num,.slice x_n.a x_n.len x_n.cap])
 obtain ⟨o9,ho9⟩:=oN x_n
 have HIN:=Lib.hid ((k6.weak (S':=SB w w2.heap.size) (fun b hb h => ⟨h.1,Nat.ne_of_lt hb⟩)).alloc o9)
 have HAT:=Lib.hid (k2.alloc o9)
 subst ho9
 have HK:=Lib.hid k1
 have HZB:=HZ
 have NB : Hid (¬ w2.heap.size = E.Q):=by have h1:=HQ.out;have h2:=HZ.out;show ¬ _;omega
 obtain ⟨o9,ho9⟩:=oN x_n
 replace HX:=bA HX o9
 replace HT:=tA HT o9
 replace HZ : Hid (w.heap.size < (w2.alloc o9).heap.size):=by show _ < _;rw [World.size_alloc];exact Nat.lt_succ_of_lt HZ.out
 subst ho9
 clear HO HST k1 k2 k6
 go_wp2_with fail
 generalize (w2.alloc (.cells #[.int .i64 x_n.kind,.string x_n.text,.int .i64 x_n.num,.slice x_n.a x_n.len x_n.cap] 24)) = wb at *
 generalize w2.heap.size = b1 at *
 go_loopg [8,9] E.L.length (fun gk _ _ wr => XInv1 w E rr b1 (fun g n s => run E.L E.e g (.sumL n) s) f gk wr)
 case atStart => exact ⟨HT.out,HZ.out,HX.out,x_n,f,0,n1,s1,HB.out,Nat.le_refl _,by omega,HK.out,HAT.out,HIN.out⟩
 case round =>
  clear HT HZ HX HB HK HAT HIN
  obtain ⟨ht,hz,hx,x_m,g,i,n9,s9,hb,hgf,hgk,hk,hat,hin⟩:=hrel
  have HT:=Lib.hid ht
  have HZ:=Lib.hid hz
  have HX:=Lib.hid hx
  have HB:=Lib.hid hb
  have HAT:=Lib.hid hat
  have HIN:=Lib.hid hin
  have HGK:=Lib.hid hgk
  clear ht hz hx hb hat hin hgk
  cases g with
  | zero => exact absurd (hk.trans (by simp only [run])) HO0.out
  | succ g =>
   have HK:=Lib.hid hk
   have HIS:=Lib.hid (pis_any 4 HAT.out)
   clear hk
   cases h4 : isP E.L 4 s9
   ·have H4:=Lib.hid h4
    rw [h4] at HIS
    go_wp2_with fail
    refine HIS.out.mono ?_
    rintro e w3 ⟨rfl,hb9⟩
    have ht9:=Turned.of_below (fun b => b = E.Q) hb9
    replace HAT:=Lib.hid (HAT.out.below hb9)
    replace HIN:=Lib.hid (HIN.out.turned ht9 (sb_ne HQ.out))
    replace HX:=bT HX ht9 NE
    replace HB:=bT HB ht9 NB
    replace HZ:=zT HZ ht9
    replace HT:=tT HT ht9
    clear hb9 ht9 HIS
    clear h4
    have HST : Hid (PT1 E rr w3 (fun _ _ _ n s => .ok n s) ByteArray.empty ByteArray.empty [] x_m (SB w b1) 0):=⟨nd0,nd0,[],n9,s9,HK.out.trans (sum_miss HOK.out (.inl H4.out)),HAT.out,rfl,rfl,AllN.nil _ _,HIN.out,Nat.zero_le _⟩
    obtain ⟨u0,u1,u2,u3,g0,g1,g2,g3,gl⟩:=HX.out.f4
    obtain ⟨y0,y1,y2,y3,e0,e1,e2,e3,el⟩:=HB.out.f4
    go_wp2_with fail
    clear u0 u1 u2 u3 g0 g1 g2 g3 gl y0 y1 y2 y3 e0 e1 e2 e3 el
    have HEND:=Lib.hid (pt_end (x:=x_m) HQ.out HT.out HX.out (fun b h => h.1) HST.out rfl)
    refine open_post (fun W => Blk W w.heap.size 24 #[.int .i64 x_m.kind,.string x_m.text,.int .i64 x_m.num,.slice x_m.a x_m.len x_m.cap] ∧ PEnd E rr w (.returned (nvA x_m)) W) HEND.out ?_
    rintro W ⟨hb,hE⟩
    obtain ⟨v0,v1,v2,v3,-⟩:=hb.f4
    exact bodyPost_ret (v:=nvA x_m) (by simp [results,Tryz.results125,go_sem,nvA,v0,v1,v2,v3]) rfl hE
   ·have H4:=Lib.hid h4
    rw [h4] at HIS
    go_wp2_with fail
    refine HIS.out.mono ?_
    rintro e w3 ⟨rfl,hb9⟩
    have ht9:=Turned.of_below (fun b => b = E.Q) hb9
    replace HAT:=Lib.hid (HAT.out.below hb9)
    replace HIN:=Lib.hid (HIN.out.turned ht9 (sb_ne HQ.out))
    replace HX:=bT HX ht9 NE
    replace HB:=bT HB ht9 NB
    replace HZ:=zT HZ ht9
    replace HT:=tT HT ht9
    clear hb9 ht9 HIS
    have hlt:=is_lt h4
    clear h4
    have HLT:=Lib.hid hlt
    have htx : OkT 4 (textP E.L s9):=text_ok HOK.out H4.out
    obtain ⟨bq,oq,cq,hbq,h2q⟩:=HAT.out.headT hlt
    have hMw : w3.heap[M]? = some (.map #[ent ⟨#[43]⟩ 20 0,ent ⟨#[45]⟩ 21 1] 2):=(HT.out.block M HML.out NM.out).trans HM.out
    obtain ⟨z0,z1,z2,z3,z4,z5,z6,z7,zl⟩:=hbq.f4
    have hle : (0 : Int) < ((E.L.length - s9.i : Nat) : Int):=by omega
    have hle2 : 0 < E.L.length - s9.i:=by omega
    have HTX:=Lib.hid htx
    clear hbq htx
    have hlk:=look_map (sign_size HTX.out) hMw (fun e he => by
      simp only [List.mem_cons,List.not_mem_nil,or_false] at he
      rcases he with rfl | rfl
      ·exact ⟨_,_,_,rfl,by decide⟩
      ·exact ⟨_,_,_,rfl,by decide⟩)
    rcases hlk with ⟨v8,b8,hm8,hlk⟩ | ⟨hno,hlk⟩
    ·simp only [List.mem_cons,List.not_mem_nil,or_false] at hm8
     rcases hm8 with hm8 | hm8
     ·skip
      have htt : textP E.L s9 = ⟨#[43]⟩:=by injection hm8 with h1 h2 h3;injection h1
      have hvv : v8 = 20:=by injection hm8 with h1 h2 h3;injection h2
      subst hvv
      have hk2 : rr = sumStep E g 20 n9 (stepP s9):=HK.out.trans (sum_hit0 HOK.out H4.out htt)
      have HK2:=Lib.hid hk2
      rw [htt] at h2q hlk
      clear hm8 htt hk2 HK hMw HTX H4
      go_wp2_with fail
      clear z0 z1 z2 z3 z4 z5 z6 z7 zl hlk h2q hle hle2
      refine (pnext_any HAT.out HLT.out).mono ?_
      rintro e w4 ⟨rfl,ht9,hs9⟩
      replace HIN:=Lib.hid (HIN.out.turned ht9 (sb_ne HQ.out))
      replace HX:=bT HX ht9 NE
      replace HB:=bT HB ht9 NB
      replace HZ:=zT HZ ht9
      replace HT:=tT HT ht9
      have HAT4:=Lib.hid hs9
      clear ht9 hs9 HAT
      go_wp2_with fail
      replace HX : Hid (Blk w4.drew w.heap.size 24 #[.int .i64 0,.string ⟨#[]⟩,.int .i64 0,.slice none 0 0]):=HX.out.drewN 1
      replace HB : Hid (Blk w4.drew b1 24 #[.int .i64 x_m.kind,.string x_m.text,.int .i64 x_m.num,.slice x_m.a x_m.len x_m.cap]):=HB.out.drewN 1
      replace HZ : Hid (w.heap.size < w4.drew.heap.size):=HZ.out
      replace HT : Hid (Turned w w4.drew (fun b => b = E.Q)):=HT.out.drewN 1
      replace HAT4 : Hid (PAt w4.drew E (stepP s9)):=HAT4.out.drewN 1
      replace HIN : Hid (IsN w4.drew (SB w b1) x_m n9):=HIN.out.kept (Nat.le_refl _) (fun _ _ _ => rfl) (fun _ _ h => h)
      have HST : Hid (PT E rr w4.drew (fun (t u : Nd) (ls : List Nd) s => (run E.L E.e g .term s).bind fun k s => (fun (t u : Nd) (ls : List Nd) k s => (fun (t u : Nd) (ls : List Nd) s => (fun (_ _ : Nd) (ls : List Nd) s => run E.L E.e g (.sumL (.mk 20 ((fun (_ _ : Nd) => (⟨#[]⟩ : ByteArray)) nd0 nd0) 0 ls)) s) t u ls ⟨s.i,s.dep,s.many + 1⟩) t u (ls ++ [k]) s) t u ls k s) ByteArray.empty ByteArray.empty [x_m] (SB w b1) (s9.i + 1)):=⟨nd0,nd0,[n9],stepP s9,HK2.out,HAT4.out,rfl,rfl,AllN.one HIN.out,Nat.le_refl _⟩
      have HCALL:=Lib.hid ((pt_call (sb_ne HQ.out) (ihT g (Nat.le_of_succ_le hgf)) HO0.out (fun b hb => ⟨Nat.lt_of_lt_of_le HZ.out hb,Nat.ne_of_gt (Nat.lt_of_lt_of_le HB.out.lt hb)⟩) HST.out).mono (fun _ _ h => way_open h))
      clear HST HAT4 HIN HK2
      obtain ⟨y0,y1,y2,y3,e0,e1,e2,e3,el⟩:=HB.out.f4
      go_region_law (first
        | (go_simp;go_at_call 126;with_reducible refine HCALL.out.mono ?_;rintro e w9 ⟨ht9,⟨v9,rfl,x_k,rfl,hst9⟩ | ⟨c9,p9,hr9,hc9,rfl⟩⟩;rotate_left;exact throw_out rfl (throw_end (HT.out.then ht9) hr9 hc9);have HF:=Lib.hid (chain_next (K:=(fun (t u : Nd) (ls : List Nd) s => (fun (_ _ : Nd) (ls : List Nd) s => run E.L E.e g (.sumL (.mk 20 ((fun (_ _ : Nd) => (⟨#[]⟩ : ByteArray)) nd0 nd0) 0 ls)) s) t u ls ⟨s.i,s.dep,s.many + 1⟩)) HQ.out HT.out ht9 HX.out HB.out HZB.out hst9);clear ht9 hst9;obtain ⟨y0,y1,y2,y3,e0,e1,e2,e3,el⟩:=HF.out.2.1.f4;have HNODE:=Lib.hid (pt_node (K:=(fun (_ _ : Nd) (ls : List Nd) s => run E.L E.e g (.sumL (.mk 20 ((fun (_ _ : Nd) => (⟨#[]⟩ : ByteArray)) nd0 nd0) 0 ls)) s)) (sr2_ne HQ.out) 20 ⟨#[]⟩ (some ⟨w9.heap.size,0,none⟩) 2 2 HF.out.2.2.2.2))
        | (go_simp;go_at_call 66;with_reducible refine HNODE.out.mono ?_;rintro e w10 ⟨rfl,ht10,hst10⟩;have HG:=Lib.hid (And.intro ht10 hst10);clear ht10 hst10;obtain ⟨y0,y1,y2,y3,e0,e1,e2,e3,el⟩:=(HG.out.1.blk (HF.out.2.1.alloc _) NB.out).f4))
      all_goals
       clear y0 y1 y2 y3 e0 e1 e2 e3 el HNODE HCALL
       have HP:=Lib.hid (pt_box (K:=fun n s => run E.L E.e g (.sumL n) s) (kd:=20) (tx:=⟨#[]⟩) (fun _ _ => ⟨#[]⟩) (fun _ _ _ _ => rfl) HQ.out ((HF.out.2.2.1.alloc _).then HG.out.1) (HF.out.2.2.2.1.turned HG.out.1 (row_ne HF.out.2.2.2.1 HQ.out)) (HG.out.1.blk (HF.out.2.1.alloc _) NB.out) HZB.out (fun k hk => Option.some.inj hk ▸ Nat.ne_of_gt HF.out.2.1.lt) HG.out.2 rfl)
       go_wp2_with fail
       obtain ⟨f1,f2,f3,f4,m,s2,f5,f6,f7,f8⟩:=HP.out
       have hz9 : w.heap.size < _:=Nat.lt_of_lt_of_le (Nat.lt_trans HZB.out f3.lt) (Nat.le_refl _)
       have hx9:=f4 _ _ _ (Nat.ne_of_lt HZB.out) (HG.out.1.blk (HF.out.1.alloc _) NE.out)
       have hgk:=HGK.out
       have hl9:=HLT.out
       go_roundg (gk - 1)
       case measure => omega
       case rel => exact ⟨f1,hz9,hx9,_,g,0,m,s2,f3,Nat.le_of_succ_le hgf,by omega,f5,f6,f7⟩
     ·skip
      have htt : textP E.L s9 = ⟨#[45]⟩:=by injection hm8 with h1 h2 h3;injection h1
      have hvv : v8 = 21:=by injection hm8 with h1 h2 h3;injection h2
      subst hvv
      have hk2 : rr = sumStep E g 21 n9 (stepP s9):=HK.out.trans (sum_hit1 HOK.out H4.out htt)
      have HK2:=Lib.hid hk2
      rw [htt] at h2q hlk
      clear hm8 htt hk2 HK hMw HTX H4
      go_wp2_with fail
      clear z0 z1 z2 z3 z4 z5 z6 z7 zl hlk h2q hle hle2
      refine (pnext_any HAT.out HLT.out).mono ?_
      rintro e w4 ⟨rfl,ht9,hs9⟩
      replace HIN:=Lib.hid (HIN.out.turned ht9 (sb_ne HQ.out))
      replace HX:=bT HX ht9 NE
      replace HB:=bT HB ht9 NB
      replace HZ:=zT HZ ht9
      replace HT:=tT HT ht9
      have HAT4:=Lib.hid hs9
      clear ht9 hs9 HAT
      go_wp2_with fail
      replace HX : Hid (Blk w4.drew w.heap.size 24 #[.int .i64 0,.string ⟨#[]⟩,.int .i64 0,.slice none 0 0]):=HX.out.drewN 1
      replace HB : Hid (Blk w4.drew b1 24 #[.int .i64 x_m.kind,.string x_m.text,.int .i64 x_m.num,.slice x_m.a x_m.len x_m.cap]):=HB.out.drewN 1
      replace HZ : Hid (w.heap.size < w4.drew.heap.size):=HZ.out
      replace HT : Hid (Turned w w4.drew (fun b => b = E.Q)):=HT.out.drewN 1
      replace HAT4 : Hid (PAt w4.drew E (stepP s9)):=HAT4.out.drewN 1
      replace HIN : Hid (IsN w4.drew (SB w b1) x_m n9):=HIN.out.kept (Nat.le_refl _) (fun _ _ _ => rfl) (fun _ _ h => h)
      have HST : Hid (PT E rr w4.drew (fun (t u : Nd) (ls : List Nd) s => (run E.L E.e g .term s).bind fun k s => (fun (t u : Nd) (ls : List Nd) k s => (fun (t u : Nd) (ls : List Nd) s => (fun (_ _ : Nd) (ls : List Nd) s => run E.L E.e g (.sumL (.mk 21 ((fun (_ _ : Nd) => (⟨#[]⟩ : ByteArray)) nd0 nd0) 0 ls)) s) t u ls ⟨s.i,s.dep,s.many + 1⟩) t u (ls ++ [k]) s) t u ls k s) ByteArray.empty ByteArray.empty [x_m] (SB w b1) (s9.i + 1)):=⟨nd0,nd0,[n9],stepP s9,HK2.out,HAT4.out,rfl,rfl,AllN.one HIN.out,Nat.le_refl _⟩
      have HCALL:=Lib.hid ((pt_call (sb_ne HQ.out) (ihT g (Nat.le_of_succ_le hgf)) HO0.out (fun b hb => ⟨Nat.lt_of_lt_of_le HZ.out hb,Nat.ne_of_gt (Nat.lt_of_lt_of_le HB.out.lt hb)⟩) HST.out).mono (fun _ _ h => way_open h))
      clear HST HAT4 HIN HK2
      obtain ⟨y0,y1,y2,y3,e0,e1,e2,e3,el⟩:=HB.out.f4
      go_region_law (first
        | (go_simp;go_at_call 126;with_reducible refine HCALL.out.mono ?_;rintro e w9 ⟨ht9,⟨v9,rfl,x_k,rfl,hst9⟩ | ⟨c9,p9,hr9,hc9,rfl⟩⟩;rotate_left;exact throw_out rfl (throw_end (HT.out.then ht9) hr9 hc9);have HF:=Lib.hid (chain_next (K:=(fun (t u : Nd) (ls : List Nd) s => (fun (_ _ : Nd) (ls : List Nd) s => run E.L E.e g (.sumL (.mk 21 ((fun (_ _ : Nd) => (⟨#[]⟩ : ByteArray)) nd0 nd0) 0 ls)) s) t u ls ⟨s.i,s.dep,s.many + 1⟩)) HQ.out HT.out ht9 HX.out HB.out HZB.out hst9);clear ht9 hst9;obtain ⟨y0,y1,y2,y3,e0,e1,e2,e3,el⟩:=HF.out.2.1.f4;have HNODE:=Lib.hid (pt_node (K:=(fun (_ _ : Nd) (ls : List Nd) s => run E.L E.e g (.sumL (.mk 21 ((fun (_ _ : Nd) => (⟨#[]⟩ : ByteArray)) nd0 nd0) 0 ls)) s)) (sr2_ne HQ.out) 21 ⟨#[]⟩ (some ⟨w9.heap.size,0,none⟩) 2 2 HF.out.2.2.2.2))
        | (go_simp;go_at_call 66;with_reducible refine HNODE.out.mono ?_;rintro e w10 ⟨rfl,ht10,hst10⟩;have HG:=Lib.hid (And.intro ht10 hst10);clear ht10 hst10;obtain ⟨y0,y1,y2,y3,e0,e1,e2,e3,el⟩:=(HG.out.1.blk (HF.out.2.1.alloc _) NB.out).f4))
      all_goals
       clear y0 y1 y2 y3 e0 e1 e2 e3 el HNODE HCALL
       have HP:=Lib.hid (pt_box (K:=fun n s => run E.L E.e g (.sumL n) s) (kd:=21) (tx:=⟨#[]⟩) (fun _ _ => ⟨#[]⟩) (fun _ _ _ _ => rfl) HQ.out ((HF.out.2.2.1.alloc _).then HG.out.1) (HF.out.2.2.2.1.turned HG.out.1 (row_ne HF.out.2.2.2.1 HQ.out)) (HG.out.1.blk (HF.out.2.1.alloc _) NB.out) HZB.out (fun k hk => Option.some.inj hk ▸ Nat.ne_of_gt HF.out.2.1.lt) HG.out.2 rfl)
       go_wp2_with fail
       obtain ⟨f1,f2,f3,f4,m,s2,f5,f6,f7,f8⟩:=HP.out
       have hz9 : w.heap.size < _:=Nat.lt_of_lt_of_le (Nat.lt_trans HZB.out f3.lt) (Nat.le_refl _)
       have hx9:=f4 _ _ _ (Nat.ne_of_lt HZB.out) (HG.out.1.blk (HF.out.1.alloc _) NE.out)
       have hgk:=HGK.out
       have hl9:=HLT.out
       go_roundg (gk - 1)
       case measure => omega
       case rel => exact ⟨f1,hz9,hx9,_,g,0,m,s2,f3,Nat.le_of_succ_le hgf,by omega,f5,f6,f7⟩
    ·skip
     have HNO:=Lib.hid hno
     clear hno hMw HTX
     have HST : Hid (PT1 E rr w3 (fun _ _ _ n s => .ok n s) ByteArray.empty ByteArray.empty [] x_m (SB w b1) 0):=⟨nd0,nd0,[],n9,s9,HK.out.trans (sum_miss HOK.out (.inr ⟨fun e => HNO.out 20 0 (by rw [e];simp),fun e => HNO.out 21 1 (by rw [e];simp)⟩)),HAT.out,rfl,rfl,AllN.nil _ _,HIN.out,Nat.zero_le _⟩
     obtain ⟨u0,u1,u2,u3,g0,g1,g2,g3,gl⟩:=HX.out.f4
     obtain ⟨y0,y1,y2,y3,e0,e1,e2,e3,el⟩:=HB.out.f4
     go_wp2_with fail
     clear u0 u1 u2 u3 g0 g1 g2 g3 gl y0 y1 y2 y3 e0 e1 e2 e3 el z0 z1 z2 z3 z4 z5 z6 z7 zl hlk h2q hle hle2
     have HEND:=Lib.hid (pt_end (x:=x_m) HQ.out HT.out HX.out (fun b h => h.1) HST.out rfl)
     refine open_post (fun W => Blk W w.heap.size 24 #[.int .i64 x_m.kind,.string x_m.text,.int .i64 x_m.num,.slice x_m.a x_m.len x_m.cap] ∧ PEnd E rr w (.returned (nvA x_m)) W) HEND.out ?_
     rintro W ⟨hb,hE⟩
     obtain ⟨v0,v1,v2,v3,-⟩:=hb.f4
     exact bodyPost_ret (v:=nvA x_m) (by simp [results,Tryz.results125,go_sem,nvA,v0,v1,v2,v3]) rfl hE
def termStep (E : Env) (g : Nat) (kd : Int) (n : Nd) (s : PS) : Res:=(run E.L E.e g .unary s).bind fun k s => run E.L E.e g (.termL (.mk kd ⟨#[]⟩ 0 [n,k])) ⟨s.i,s.dep,s.many + 1⟩
theorem term_eq (E : Env) (g : Nat) (n : Nd) (s : PS) : run E.L E.e (g + 1) (.termL n) s = if seesP E.L ⟨#[42]⟩ s = true then termStep E g 22 n (stepP s) else .ok n s:=by
 simp only [run,nodeP,tx_nil,tx_mul,ok_bind,termStep]
theorem term_hit0 {E : Env} {g : Nat} {n : Nd} {s : PS} (hok : ∀ t ∈ E.L,OkT t.kind t.text) (h4 : isP E.L 4 s = true) (ht : textP E.L s = ⟨#[42]⟩) : run E.L E.e (g + 1) (.termL n) s = termStep E g 22 n (stepP s):=by
 rw [term_eq]
 have hs : seesP E.L ⟨#[42]⟩ s = true:=by
  rw [sees_sign hok (word_not _ (by decide)),h4,ht];simp
 rw [if_pos hs]
theorem term_miss {E : Env} {g : Nat} {n : Nd} {s : PS} (hok : ∀ t ∈ E.L,OkT t.kind t.text) (h : isP E.L 4 s = false ∨ (textP E.L s ≠ ⟨#[42]⟩)) : run E.L E.e (g + 1) (.termL n) s = .ok n s:=by
 rw [term_eq]
 have hs0 : seesP E.L ⟨#[42]⟩ s = false:=by
  rw [sees_sign hok (word_not _ (by decide))]
  rcases h with h | h
  ·rw [h];rfl
  ·have h2 : ((textP E.L s).toList == (⟨#[42]⟩ : ByteArray).toList) = false:=by
    rw [show (⟨#[42]⟩ : ByteArray).toList = [42] by rw [ByteArray.toList_eq]]
    exact beq_one h
   rw [h2,Bool.and_false]
 rw [if_neg (by rw [hs0];decide)]
set_option maxRecDepth 100000 in
set_option maxHeartbeats 3200000 in
theorem pchain_term {f : Nat} (ihU : ∀ g,g ≤ f → PCall g .unary 129) {E : Env} {s : PS} {w : World} {M : Nat} (h : PAt w E s) (hM : w.heap[M]? = some (.map #[ent ⟨#[42]⟩ 22 0] 1)) (hMQ : E.Q < M) (hMl : M < w.heap.size) (hout : run E.L E.e (f + 1) .term s ≠ .out) : Calls Tryz.prog 125 #[.pointer (some ⟨E.Q,0,none⟩),.func (.func 129) #[.pointer (some ⟨E.Q,0,none⟩)] #[],.map (some M)] w (PEnd E (run E.L E.e (f + 1) .term s) w):=by
 have HM:=Lib.hid hM
 have NM : Hid (¬ M = E.Q):=by show ¬ _;omega
 have HML:=Lib.hid hMl
 clear hM hMQ hMl
 have HO0:=Lib.hid hout
 generalize hrr : run E.L E.e (f + 1) .term s = rr at *
 have hr : rr = (fun (_ _ : Nd) (_ : List Nd) s => (run E.L E.e f .unary s).bind fun n s => (fun (_ _ : Nd) (_ : List Nd) n s => run E.L E.e f (.termL n) s) nd0 nd0 [] n s) nd0 nd0 [] s:=by rw [← hrr];simp only [run]
 clear hrr hout
 have HQ:=Lib.hid h.old
 have NE : Hid (¬ w.heap.size = E.Q):=by have:=h.old;show ¬ _;omega
 have hfew:=h.few
 obtain ⟨o9,ho9⟩:=oZ
 have hb0:=bl w o9
 have HT:=Lib.hid (Turned.of_below (fun b => b = E.Q) hb0)
 have HX:=zB w
 have HZ:=zN w o9
 have HO:=Lib.hid (OwnN.nil (w.alloc o9) (w.heap.size + 1))
 subst ho9
 have HST : Hid (PT E rr (w.alloc (.cells #[.int .i64 0,.string ⟨#[]⟩,.int .i64 0,.slice none 0 0] 24)) (fun (_ _ : Nd) (_ : List Nd) s => (run E.L E.e f .unary s).bind fun n s => (fun (_ _ : Nd) (_ : List Nd) n s => run E.L E.e f (.termL n) s) nd0 nd0 [] n s) ByteArray.empty ByteArray.empty [] (SR w (.slice none 0 0)) 0):=PT.below (K:=(fun (_ _ : Nd) (_ : List Nd) s => (run E.L E.e f .unary s).bind fun n s => (fun (_ _ : Nd) (_ : List Nd) n s => run E.L E.e f (.termL n) s) nd0 nd0 [] n s)) ⟨nd0,nd0,[],s,hr,h,rfl,rfl,AllN.nil _ _,Nat.zero_le _⟩ hb0
 clear h hb0 hr
 go_enter Tryz.func125,Tryz.ntmps125
 have hok:=HST.out.at.elim (fun s h => h.1.okt)
 have HOK:=Lib.hid hok
 clear hok
 go_wp2_with fail
 (try rw [← (show (w.alloc (.cells #[.int .i64 0,.string ⟨#[]⟩,.int .i64 0,.slice none 0 0] 24)).heap.size = _ from World.size_alloc _ _)])
 generalize (w.alloc (.cells #[.int .i64 0,.string ⟨#[]⟩,.int .i64 0,.slice none 0 0] 24)) = w1 at *
 refine (pt_call (sr_ne HQ.out) (ihU f (Nat.le_refl f)) HO0.out (fun b hb => ⟨Nat.lt_of_lt_of_le HZ.out hb,fun e => Nat.lt_irrefl _ (Nat.lt_of_lt_of_le (HO.out.lt _ e).2 hb)⟩) HST.out).mono ?_
 rintro e w2 ⟨ht9,⟨v9,rfl,x_n,rfl,hst9⟩ | ⟨c9,p9,hr9,hc9,rfl⟩⟩
 rotate_left
 ·exact ⟨rfl,HT.out.then ht9,.inr ⟨_,_,hr9,hc9,rfl⟩⟩
 replace HX:=bT HX ht9 NE
 replace HO:=Lib.hid (HO.out.turned ht9 (row_ne HO.out HQ.out))
 replace HZ:=zT HZ ht9
 replace HT:=tT HT ht9
 replace HST:=Lib.hid hst9
 clear ht9 hst9
 obtain ⟨t1,u1,ls1,n1,s1,k1,k2,-,-,-,k6,-⟩:=HST.out
 have HB:=Lib.hid (Blk.new w2 24 #[.int .i64 x_n.kind,.string x_n.text,.int .i64 x_n.num,.slice x_n.a x_n.len x_n.cap])
 obtain ⟨o9,ho9⟩:=oN x_n
 have HIN:=Lib.hid ((k6.weak (S':=SB w w2.heap.size) (fun b hb h => ⟨h.1,Nat.ne_of_lt hb⟩)).alloc o9)
 have HAT:=Lib.hid (k2.alloc o9)
 subst ho9
 have HK:=Lib.hid k1
 have HZB:=HZ
 have NB : Hid (¬ w2.heap.size = E.Q):=by have h1:=HQ.out;have h2:=HZ.out;show ¬ _;omega
 obtain ⟨o9,ho9⟩:=oN x_n
 replace HX:=bA HX o9
 replace HT:=tA HT o9
 replace HZ : Hid (w.heap.size < (w2.alloc o9).heap.size):=by show _ < _;rw [World.size_alloc];exact Nat.lt_succ_of_lt HZ.out
 subst ho9
 clear HO HST k1 k2 k6
 go_wp2_with fail
 generalize (w2.alloc (.cells #[.int .i64 x_n.kind,.string x_n.text,.int .i64 x_n.num,.slice x_n.a x_n.len x_n.cap] 24)) = wb at *
 generalize w2.heap.size = b1 at *
 go_loopg [8,9] E.L.length (fun gk _ _ wr => XInv1 w E rr b1 (fun g n s => run E.L E.e g (.termL n) s) f gk wr)
 case atStart => exact ⟨HT.out,HZ.out,HX.out,x_n,f,0,n1,s1,HB.out,Nat.le_refl _,by omega,HK.out,HAT.out,HIN.out⟩
 case round =>
  clear HT HZ HX HB HK HAT HIN
  obtain ⟨ht,hz,hx,x_m,g,i,n9,s9,hb,hgf,hgk,hk,hat,hin⟩:=hrel
  have HT:=Lib.hid ht
  have HZ:=Lib.hid hz
  have HX:=Lib.hid hx
  have HB:=Lib.hid hb
  have HAT:=Lib.hid hat
  have HIN:=Lib.hid hin
  have HGK:=Lib.hid hgk
  clear ht hz hx hb hat hin hgk
  cases g with
  | zero => exact absurd (hk.trans (by simp only [run])) HO0.out
  | succ g =>
   have HK:=Lib.hid hk
   have HIS:=Lib.hid (pis_any 4 HAT.out)
   clear hk
   cases h4 : isP E.L 4 s9
   ·have H4:=Lib.hid h4
    rw [h4] at HIS
    go_wp2_with fail
    refine HIS.out.mono ?_
    rintro e w3 ⟨rfl,hb9⟩
    have ht9:=Turned.of_below (fun b => b = E.Q) hb9
    replace HAT:=Lib.hid (HAT.out.below hb9)
    replace HIN:=Lib.hid (HIN.out.turned ht9 (sb_ne HQ.out))
    replace HX:=bT HX ht9 NE
    replace HB:=bT HB ht9 NB
    replace HZ:=zT HZ ht9
    replace HT:=tT HT ht9
    clear hb9 ht9 HIS
    clear h4
    have HST : Hid (PT1 E rr w3 (fun _ _ _ n s => .ok n s) ByteArray.empty ByteArray.empty [] x_m (SB w b1) 0):=⟨nd0,nd0,[],n9,s9,HK.out.trans (term_miss HOK.out (.inl H4.out)),HAT.out,rfl,rfl,AllN.nil _ _,HIN.out,Nat.zero_le _⟩
    obtain ⟨u0,u1,u2,u3,g0,g1,g2,g3,gl⟩:=HX.out.f4
    obtain ⟨y0,y1,y2,y3,e0,e1,e2,e3,el⟩:=HB.out.f4
    go_wp2_with fail
    clear u0 u1 u2 u3 g0 g1 g2 g3 gl y0 y1 y2 y3 e0 e1 e2 e3 el
    have HEND:=Lib.hid (pt_end (x:=x_m) HQ.out HT.out HX.out (fun b h => h.1) HST.out rfl)
    refine open_post (fun W => Blk W w.heap.size 24 #[.int .i64 x_m.kind,.string x_m.text,.int .i64 x_m.num,.slice x_m.a x_m.len x_m.cap] ∧ PEnd E rr w (.returned (nvA x_m)) W) HEND.out ?_
    rintro W ⟨hb,hE⟩
    obtain ⟨v0,v1,v2,v3,-⟩:=hb.f4
    exact bodyPost_ret (v:=nvA x_m) (by simp [results,Tryz.results125,go_sem,nvA,v0,v1,v2,v3]) rfl hE
   ·have H4:=Lib.hid h4
    rw [h4] at HIS
    go_wp2_with fail
    refine HIS.out.mono ?_
    rintro e w3 ⟨rfl,hb9⟩
    have ht9:=Turned.of_below (fun b => b = E.Q) hb9
    replace HAT:=Lib.hid (HAT.out.below hb9)
    replace HIN:=Lib.hid (HIN.out.turned ht9 (sb_ne HQ.out))
    replace HX:=bT HX ht9 NE
    replace HB:=bT HB ht9 NB
    replace HZ:=zT HZ ht9
    replace HT:=tT HT ht9
    clear hb9 ht9 HIS
    have hlt:=is_lt h4
    clear h4
    have HLT:=Lib.hid hlt
    have htx : OkT 4 (textP E.L s9):=text_ok HOK.out H4.out
    obtain ⟨bq,oq,cq,hbq,h2q⟩:=HAT.out.headT hlt
    have hMw : w3.heap[M]? = some (.map #[ent ⟨#[42]⟩ 22 0] 1):=(HT.out.block M HML.out NM.out).trans HM.out
    obtain ⟨z0,z1,z2,z3,z4,z5,z6,z7,zl⟩:=hbq.f4
    have hle : (0 : Int) < ((E.L.length - s9.i : Nat) : Int):=by omega
    have hle2 : 0 < E.L.length - s9.i:=by omega
    have HTX:=Lib.hid htx
    clear hbq htx
    have hlk:=look_map (sign_size HTX.out) hMw (fun e he => by
      simp only [List.mem_cons,List.not_mem_nil,or_false] at he
      subst he
      exact ⟨_,_,_,rfl,by decide⟩)
    rcases hlk with ⟨v8,b8,hm8,hlk⟩ | ⟨hno,hlk⟩
    ·simp only [List.mem_cons,List.not_mem_nil,or_false] at hm8
     have htt : textP E.L s9 = ⟨#[42]⟩:=by injection hm8 with h1 h2 h3;injection h1
     have hvv : v8 = 22:=by injection hm8 with h1 h2 h3;injection h2
     subst hvv
     have hk2 : rr = termStep E g 22 n9 (stepP s9):=HK.out.trans (term_hit0 HOK.out H4.out htt)
     have HK2:=Lib.hid hk2
     rw [htt] at h2q hlk
     clear hm8 htt hk2 HK hMw HTX H4
     go_wp2_with fail
     clear z0 z1 z2 z3 z4 z5 z6 z7 zl hlk h2q hle hle2
     refine (pnext_any HAT.out HLT.out).mono ?_
     rintro e w4 ⟨rfl,ht9,hs9⟩
     replace HIN:=Lib.hid (HIN.out.turned ht9 (sb_ne HQ.out))
     replace HX:=bT HX ht9 NE
     replace HB:=bT HB ht9 NB
     replace HZ:=zT HZ ht9
     replace HT:=tT HT ht9
     have HAT4:=Lib.hid hs9
     clear ht9 hs9 HAT
     go_wp2_with fail
     replace HX : Hid (Blk w4.drew w.heap.size 24 #[.int .i64 0,.string ⟨#[]⟩,.int .i64 0,.slice none 0 0]):=HX.out.drewN 1
     replace HB : Hid (Blk w4.drew b1 24 #[.int .i64 x_m.kind,.string x_m.text,.int .i64 x_m.num,.slice x_m.a x_m.len x_m.cap]):=HB.out.drewN 1
     replace HZ : Hid (w.heap.size < w4.drew.heap.size):=HZ.out
     replace HT : Hid (Turned w w4.drew (fun b => b = E.Q)):=HT.out.drewN 1
     replace HAT4 : Hid (PAt w4.drew E (stepP s9)):=HAT4.out.drewN 1
     replace HIN : Hid (IsN w4.drew (SB w b1) x_m n9):=HIN.out.kept (Nat.le_refl _) (fun _ _ _ => rfl) (fun _ _ h => h)
     have HST : Hid (PT E rr w4.drew (fun (t u : Nd) (ls : List Nd) s => (run E.L E.e g .unary s).bind fun k s => (fun (t u : Nd) (ls : List Nd) k s => (fun (t u : Nd) (ls : List Nd) s => (fun (_ _ : Nd) (ls : List Nd) s => run E.L E.e g (.termL (.mk 22 ((fun (_ _ : Nd) => (⟨#[]⟩ : ByteArray)) nd0 nd0) 0 ls)) s) t u ls ⟨s.i,s.dep,s.many + 1⟩) t u (ls ++ [k]) s) t u ls k s) ByteArray.empty ByteArray.empty [x_m] (SB w b1) (s9.i + 1)):=⟨nd0,nd0,[n9],stepP s9,HK2.out,HAT4.out,rfl,rfl,AllN.one HIN.out,Nat.le_refl _⟩
     have HCALL:=Lib.hid ((pt_call (sb_ne HQ.out) (ihU g (Nat.le_of_succ_le hgf)) HO0.out (fun b hb => ⟨Nat.lt_of_lt_of_le HZ.out hb,Nat.ne_of_gt (Nat.lt_of_lt_of_le HB.out.lt hb)⟩) HST.out).mono (fun _ _ h => way_open h))
     clear HST HAT4 HIN HK2
     obtain ⟨y0,y1,y2,y3,e0,e1,e2,e3,el⟩:=HB.out.f4
     go_region_law (first
       | (go_simp;go_at_call 129;with_reducible refine HCALL.out.mono ?_;rintro e w9 ⟨ht9,⟨v9,rfl,x_k,rfl,hst9⟩ | ⟨c9,p9,hr9,hc9,rfl⟩⟩;rotate_left;exact throw_out rfl (throw_end (HT.out.then ht9) hr9 hc9);have HF:=Lib.hid (chain_next (K:=(fun (t u : Nd) (ls : List Nd) s => (fun (_ _ : Nd) (ls : List Nd) s => run E.L E.e g (.termL (.mk 22 ((fun (_ _ : Nd) => (⟨#[]⟩ : ByteArray)) nd0 nd0) 0 ls)) s) t u ls ⟨s.i,s.dep,s.many + 1⟩)) HQ.out HT.out ht9 HX.out HB.out HZB.out hst9);clear ht9 hst9;obtain ⟨y0,y1,y2,y3,e0,e1,e2,e3,el⟩:=HF.out.2.1.f4;have HNODE:=Lib.hid (pt_node (K:=(fun (_ _ : Nd) (ls : List Nd) s => run E.L E.e g (.termL (.mk 22 ((fun (_ _ : Nd) => (⟨#[]⟩ : ByteArray)) nd0 nd0) 0 ls)) s)) (sr2_ne HQ.out) 22 ⟨#[]⟩ (some ⟨w9.heap.size,0,none⟩) 2 2 HF.out.2.2.2.2))
       | (go_simp;go_at_call 66;with_reducible refine HNODE.out.mono ?_;rintro e w10 ⟨rfl,ht10,hst10⟩;have HG:=Lib.hid (And.intro ht10 hst10);clear ht10 hst10;obtain ⟨y0,y1,y2,y3,e0,e1,e2,e3,el⟩:=(HG.out.1.blk (HF.out.2.1.alloc _) NB.out).f4))
     all_goals
      clear y0 y1 y2 y3 e0 e1 e2 e3 el HNODE HCALL
      have HP:=Lib.hid (pt_box (K:=fun n s => run E.L E.e g (.termL n) s) (kd:=22) (tx:=⟨#[]⟩) (fun _ _ => ⟨#[]⟩) (fun _ _ _ _ => rfl) HQ.out ((HF.out.2.2.1.alloc _).then HG.out.1) (HF.out.2.2.2.1.turned HG.out.1 (row_ne HF.out.2.2.2.1 HQ.out)) (HG.out.1.blk (HF.out.2.1.alloc _) NB.out) HZB.out (fun k hk => Option.some.inj hk ▸ Nat.ne_of_gt HF.out.2.1.lt) HG.out.2 rfl)
      go_wp2_with fail
      obtain ⟨f1,f2,f3,f4,m,s2,f5,f6,f7,f8⟩:=HP.out
      have hz9 : w.heap.size < _:=Nat.lt_of_lt_of_le (Nat.lt_trans HZB.out f3.lt) (Nat.le_refl _)
      have hx9:=f4 _ _ _ (Nat.ne_of_lt HZB.out) (HG.out.1.blk (HF.out.1.alloc _) NE.out)
      have hgk:=HGK.out
      have hl9:=HLT.out
      go_roundg (gk - 1)
      case measure => omega
      case rel => exact ⟨f1,hz9,hx9,_,g,0,m,s2,f3,Nat.le_of_succ_le hgf,by omega,f5,f6,f7⟩
    ·skip
     have HNO:=Lib.hid hno
     clear hno hMw HTX
     have HST : Hid (PT1 E rr w3 (fun _ _ _ n s => .ok n s) ByteArray.empty ByteArray.empty [] x_m (SB w b1) 0):=⟨nd0,nd0,[],n9,s9,HK.out.trans (term_miss HOK.out (.inr (fun e => HNO.out 22 0 (by rw [e];simp)))),HAT.out,rfl,rfl,AllN.nil _ _,HIN.out,Nat.zero_le _⟩
     obtain ⟨u0,u1,u2,u3,g0,g1,g2,g3,gl⟩:=HX.out.f4
     obtain ⟨y0,y1,y2,y3,e0,e1,e2,e3,el⟩:=HB.out.f4
     go_wp2_with fail
     clear u0 u1 u2 u3 g0 g1 g2 g3 gl y0 y1 y2 y3 e0 e1 e2 e3 el z0 z1 z2 z3 z4 z5 z6 z7 zl hlk h2q hle hle2
     have HEND:=Lib.hid (pt_end (x:=x_m) HQ.out HT.out HX.out (fun b h => h.1) HST.out rfl)
     refine open_post (fun W => Blk W w.heap.size 24 #[.int .i64 x_m.kind,.string x_m.text,.int .i64 x_m.num,.slice x_m.a x_m.len x_m.cap] ∧ PEnd E rr w (.returned (nvA x_m)) W) HEND.out ?_
     rintro W ⟨hb,hE⟩
     obtain ⟨v0,v1,v2,v3,-⟩:=hb.f4
     exact bodyPost_ret (v:=nvA x_m) (by simp [results,Tryz.results125,go_sem,nvA,v0,v1,v2,v3]) rfl hE
end Go.Proofs.YtbpldfmmlgkfnaaGreatDoor
