/- The program's parser: sums, terms. The program's parser: expressions. Conditions: as each theorem says. -/
import Derived.Test.YtbpldfmmlgkfnaaGreatDoorEMemZ
import Derived.Test.YtbpldfmmlgkfnaaGreatDoorEPpH
namespace Go.Proofs.YtbpldfmmlgkfnaaGreatDoor
open Go.RowKit Go.Maps Go.MapKept Go.ChangeMaps
set_option linter.unusedVariables false
/-- A map of one key laid. -/
theorem map_one (w0 : World) {M : Nat} (hM : w0.heap.size = M) (k0 : ByteArray) (v0 : Int) (h0 : k0.size ≤ 4000) : ∃ W1 W2,(Instr.makeMap 49 none).run Tryz.prog w0 = .ok (.map (some M)) W1 ∧
  (Instr.mapUpdate 49 (.map (some M)) (.string k0) (.int .i64 v0)).run Tryz.prog W1 = .ok () W2 ∧ W2.heap[M]? = some (.map #[ent k0 v0 0] 1) ∧ Below w0.heap.size w0 W2 ∧ M < W2.heap.size:=by
 subst hM
 have g1 : (w0.alloc (.map #[] 0)).heap[w0.heap.size]? = some (.map #[] 0):=heap_alloc_new w0 _
 have i0:=ins_zero v0 h0 g1
 have s1 : (setBlock (w0.alloc (.map #[] 0)) w0.heap.size (.map #[ent k0 v0 0] 1)).heap[w0.heap.size]? = some (.map #[ent k0 v0 0] 1) ∧ ∀ k,k ≠ w0.heap.size → (setBlock (w0.alloc (.map #[] 0)) w0.heap.size (.map #[ent k0 v0 0] 1)).heap[k]? = (w0.alloc (.map #[] 0)).heap[k]?:=heap_set g1
 have z3 : (setBlock (w0.alloc (.map #[] 0)) w0.heap.size (.map #[ent k0 v0 0] 1)).heap.size = w0.heap.size + 1:=by
  show ((_ : Array Obj).setIfInBounds _ _).size = _
  rw [Array.size_setIfInBounds]
  exact World.size_alloc _ _
 exact ⟨_,_,run_makeMap ..,i0,s1.1,⟨rfl,rfl,rfl,by rw [z3];exact Nat.le_succ _,fun k hk => (s1.2 k (by omega)).trans (Below.heap_alloc w0 _ k hk)⟩,by rw [z3];exact Nat.lt_succ_self _⟩

set_option maxRecDepth 100000 in
set_option maxHeartbeats 3200000 in
theorem psum_any {f : Nat} (ihT : ∀ g,g ≤ f → PCall g .term 126) {E : Env} {s : PS} {w : World} (h : PAt w E s) (hout : run E.L E.e (f + 1) .sum s ≠ .out) : Calls Tryz.prog 120 #[.pointer (some ⟨E.Q,0,none⟩)] w (PEnd E (run E.L E.e (f + 1) .sum s) w):=by
 have HO0:=Lib.hid hout
 generalize hrr : run E.L E.e (f + 1) .sum s = rr at *
 have hr : rr = (fun (_ _ : Nd) (_ : List Nd) s => run E.L E.e (f + 1) .sum s) nd0 nd0 [] s:=hrr.symm
 clear hrr hout
 have HQ:=Lib.hid h.old
 have NE : Hid (¬ w.heap.size = E.Q):=by have:=h.old;show ¬ _;omega
 have hfew:=h.few
 obtain ⟨o9,ho9⟩:=oZ
 have hb0:=bl w o9
 have HT:=Lib.hid (Turned.of_below (fun b => b = E.Q) hb0)
 have HX:=zB w
 have HZ:=zN w o9
 have HO:=Lib.hid (OwnN.nil (w.alloc o9) (w.heap.size + 1))
 subst ho9
 have HST : Hid (PT E rr (w.alloc (.cells #[.int .i64 0,.string ⟨#[]⟩,.int .i64 0,.slice none 0 0] 24)) (fun (_ _ : Nd) (_ : List Nd) s => run E.L E.e (f + 1) .sum s) ByteArray.empty ByteArray.empty [] (SR w (.slice none 0 0)) 0):=PT.below (K:=(fun (_ _ : Nd) (_ : List Nd) s => run E.L E.e (f + 1) .sum s)) ⟨nd0,nd0,[],s,hr,h,rfl,rfl,AllN.nil _ _,Nat.zero_le _⟩ hb0
 clear h hb0 hr
 go_enter Tryz.func120,Tryz.ntmps120
 obtain ⟨W1,W2,W3,W4,r,hmk,hi0,hi1,-,-,-,-,-,hM,hbl,hMl⟩:=map_two (w.alloc (.cells #[.int .i64 0,.string ⟨#[]⟩,.int .i64 0,.slice none 0 0] 24)) (M:=w.heap.size + 1) (World.size_alloc _ _) ⟨#[43]⟩ 20 ⟨#[45]⟩ 21 (by decide) (by decide) (by decide)
 have hmf : ∀ (fn : Fn) (first cap : Array Value) (w : World),(Instr.makeFunc fn first cap).run Tryz.prog w = .ok (.func fn first cap) w:=fun _ _ _ _ => rfl
 replace HX:=Lib.hid (HX.out.below hbl HX.out.lt)
 replace HT:=Lib.hid (HT.out.then (Turned.of_below _ hbl))
 replace HZ:=Lib.hid (Nat.lt_of_lt_of_le HZ.out hbl.size)
 replace HST:=Lib.hid (HST.out.below hbl)
 clear HO hbl
 obtain ⟨t1,u1,ls1,s1,k1,k2,-,-,-,-⟩:=HST.out
 have HK:=Lib.hid k1
 have HAT:=Lib.hid k2
 clear k1 k2 HST
 have HC:=Lib.hid (pchain_sum ihT HAT.out hM (by have:=HQ.out;omega) hMl (fun hx => HO0.out (HK.out.trans hx)))
 clear hM hMl
 go_wp2_with fail
 clear hmk hi0 hi1 hmf
 refine HC.out.mono ?_
 rintro e w9 ⟨ht9,⟨v9,rfl,n9,s9,x_n,hr9,rfl,hs9,hi9⟩ | ⟨c9,p9,hr9,hc9,rfl⟩⟩
 rotate_left
 ·exact ⟨rfl,HT.out.then ht9,.inr ⟨_,_,HK.out.trans hr9,hc9,rfl⟩⟩
 have HST : Hid (PT1 E rr w9 (fun (_ _ : Nd) (_ : List Nd) n s => Res.ok n s) ByteArray.empty ByteArray.empty [] x_n (SR w (.slice none 0 0)) 0):=⟨nd0,nd0,[],n9,s9,HK.out.trans hr9,hs9,rfl,rfl,AllN.nil _ _,hi9.weak (fun b _ hb => ⟨Nat.lt_of_lt_of_le HZ.out hb,fun e => by cases e⟩),Nat.zero_le _⟩
 replace HX:=bT HX ht9 NE
 replace HZ:=zT HZ ht9
 replace HT:=tT HT ht9
 clear ht9 hr9 hs9 hi9 HC HAT
 obtain ⟨u0,u1,u2,u3,g0,g1,g2,g3,gl⟩:=HX.out.f4
 go_wp2_with fail
 clear u0 u1 u2 u3 g0 g1 g2 g3 gl
 have HEND:=Lib.hid (pt_end (x:=x_n) HQ.out HT.out HX.out (fun b h => h.1) HST.out rfl)
 refine open_post (fun W => Blk W w.heap.size 24 #[.int .i64 x_n.kind,.string x_n.text,.int .i64 x_n.num,.slice x_n.a x_n.len x_n.cap] ∧ PEnd E rr w (.returned (nvA x_n)) W) HEND.out ?_
 rintro W ⟨hb,hE⟩
 obtain ⟨v0,v1,v2,v3,-⟩:=hb.f4
 exact bodyPost_ret (v:=nvA x_n) (by simp [results,Tryz.results120,go_sem,nvA,v0,v1,v2,v3]) rfl hE
set_option maxRecDepth 100000 in
set_option maxHeartbeats 3200000 in
theorem pterm_any {f : Nat} (ihU : ∀ g,g ≤ f → PCall g .unary 129) {E : Env} {s : PS} {w : World} (h : PAt w E s) (hout : run E.L E.e (f + 1) .term s ≠ .out) : Calls Tryz.prog 126 #[.pointer (some ⟨E.Q,0,none⟩)] w (PEnd E (run E.L E.e (f + 1) .term s) w):=by
 have HO0:=Lib.hid hout
 generalize hrr : run E.L E.e (f + 1) .term s = rr at *
 have hr : rr = (fun (_ _ : Nd) (_ : List Nd) s => run E.L E.e (f + 1) .term s) nd0 nd0 [] s:=hrr.symm
 clear hrr hout
 have HQ:=Lib.hid h.old
 have NE : Hid (¬ w.heap.size = E.Q):=by have:=h.old;show ¬ _;omega
 have hfew:=h.few
 obtain ⟨o9,ho9⟩:=oZ
 have hb0:=bl w o9
 have HT:=Lib.hid (Turned.of_below (fun b => b = E.Q) hb0)
 have HX:=zB w
 have HZ:=zN w o9
 have HO:=Lib.hid (OwnN.nil (w.alloc o9) (w.heap.size + 1))
 subst ho9
 have HST : Hid (PT E rr (w.alloc (.cells #[.int .i64 0,.string ⟨#[]⟩,.int .i64 0,.slice none 0 0] 24)) (fun (_ _ : Nd) (_ : List Nd) s => run E.L E.e (f + 1) .term s) ByteArray.empty ByteArray.empty [] (SR w (.slice none 0 0)) 0):=PT.below (K:=(fun (_ _ : Nd) (_ : List Nd) s => run E.L E.e (f + 1) .term s)) ⟨nd0,nd0,[],s,hr,h,rfl,rfl,AllN.nil _ _,Nat.zero_le _⟩ hb0
 clear h hb0 hr
 go_enter Tryz.func126,Tryz.ntmps126
 obtain ⟨W1,W2,hmk,hi0,hM,hbl,hMl⟩:=map_one (w.alloc (.cells #[.int .i64 0,.string ⟨#[]⟩,.int .i64 0,.slice none 0 0] 24)) (M:=w.heap.size + 1) (World.size_alloc _ _) ⟨#[42]⟩ 22 (by decide)
 have hmf : ∀ (fn : Fn) (first cap : Array Value) (w : World),(Instr.makeFunc fn first cap).run Tryz.prog w = .ok (.func fn first cap) w:=fun _ _ _ _ => rfl
 replace HX:=Lib.hid (HX.out.below hbl HX.out.lt)
 replace HT:=Lib.hid (HT.out.then (Turned.of_below _ hbl))
 replace HZ:=Lib.hid (Nat.lt_of_lt_of_le HZ.out hbl.size)
 replace HST:=Lib.hid (HST.out.below hbl)
 clear HO hbl
 obtain ⟨t1,u1,ls1,s1,k1,k2,-,-,-,-⟩:=HST.out
 have HK:=Lib.hid k1
 have HAT:=Lib.hid k2
 clear k1 k2 HST
 have HC:=Lib.hid (pchain_term ihU HAT.out hM (by have:=HQ.out;omega) hMl (fun hx => HO0.out (HK.out.trans hx)))
 clear hM hMl
 go_wp2_with fail
 clear hmk hi0 hmf
 refine HC.out.mono ?_
 rintro e w9 ⟨ht9,⟨v9,rfl,n9,s9,x_n,hr9,rfl,hs9,hi9⟩ | ⟨c9,p9,hr9,hc9,rfl⟩⟩
 rotate_left
 ·exact ⟨rfl,HT.out.then ht9,.inr ⟨_,_,HK.out.trans hr9,hc9,rfl⟩⟩
 have HST : Hid (PT1 E rr w9 (fun (_ _ : Nd) (_ : List Nd) n s => Res.ok n s) ByteArray.empty ByteArray.empty [] x_n (SR w (.slice none 0 0)) 0):=⟨nd0,nd0,[],n9,s9,HK.out.trans hr9,hs9,rfl,rfl,AllN.nil _ _,hi9.weak (fun b _ hb => ⟨Nat.lt_of_lt_of_le HZ.out hb,fun e => by cases e⟩),Nat.zero_le _⟩
 replace HX:=bT HX ht9 NE
 replace HZ:=zT HZ ht9
 replace HT:=tT HT ht9
 clear ht9 hr9 hs9 hi9 HC HAT
 obtain ⟨u0,u1,u2,u3,g0,g1,g2,g3,gl⟩:=HX.out.f4
 go_wp2_with fail
 clear u0 u1 u2 u3 g0 g1 g2 g3 gl
 have HEND:=Lib.hid (pt_end (x:=x_n) HQ.out HT.out HX.out (fun b h => h.1) HST.out rfl)
 refine open_post (fun W => Blk W w.heap.size 24 #[.int .i64 x_n.kind,.string x_n.text,.int .i64 x_n.num,.slice x_n.a x_n.len x_n.cap] ∧ PEnd E rr w (.returned (nvA x_n)) W) HEND.out ?_
 rintro W ⟨hb,hE⟩
 obtain ⟨v0,v1,v2,v3,-⟩:=hb.f4
 exact bodyPost_ret (v:=nvA x_n) (by simp [results,Tryz.results126,go_sem,nvA,v0,v1,v2,v3]) rfl hE
end Go.Proofs.YtbpldfmmlgkfnaaGreatDoor

namespace Go.Proofs.YtbpldfmmlgkfnaaGreatDoor
open Go.RowKit Go.Maps Go.MapKept Go.ChangeMaps
set_option linter.unusedVariables false
def eOne (E : Env) (f : Nat) (kd : Int) (n : Nd) (s : PS) : Res:=(run E.L E.e f .sum s).bind fun k s => .ok (.mk kd ⟨#[]⟩ 0 [n,k]) ⟨s.i,s.dep,s.many + 1⟩
/-- What is left to ask behind a sum. -/
def KE (E : Env) (f : Nat) (d0 d1 : Bool) (t u : Nd) (ls : List Nd) (s : PS) : Res:=KU E ⟨#[60]⟩ ⟨#[61,61]⟩ (eOne E f 18 (hdN ls)) (eOne E f 19 (hdN ls)) (fun s => .ok (hdN ls) s) d0 d1 t u ls s
theorem expr_eq (E : Env) (f : Nat) (s : PS) : run E.L E.e (f + 1) .expr s = (run E.L E.e f .sum s).bind fun n s => KE E f false false nd0 nd0 [n] s:=by
 simp only [run,nodeP,tx_lt,tx_same,tx_nil]
 unfold KE KU eOne
 simp only [Bool.not_false,Bool.true_and]
 rfl
theorem ke_first {E : Env} {f : Nat} {d1 : Bool} (t u : Nd) (ls : List Nd) (s : PS) : KE E f false d1 t u ls s = if seesP E.L ⟨#[60]⟩ s = true then (fun (_ _ : Nd) (ls : List Nd) s => eOne E f 18 (hdN ls) s) t u ls (stepP s) else KE E f true d1 t u ls s:=ku_first t u ls s
theorem ke_second {E : Env} {f : Nat} {d0 : Bool} (t u : Nd) (ls : List Nd) (s : PS) : KE E f d0 false t u ls s = if seesP E.L ⟨#[61,61]⟩ s = true then (fun (_ _ : Nd) (ls : List Nd) s => eOne E f 19 (hdN ls) s) t u ls (stepP s) else KE E f d0 true t u ls s:=ku_second (by rw [ByteArray.toList_eq,ByteArray.toList_eq];decide) t u ls s
theorem PT.iterN {E : Env} {rr : Res} {w w' : World} {K : Nd → Nd → List Nd → PS → Res} {tv uv : ByteArray} {xs : List NV} {S : Nat → Prop} {lo : Nat} {r : Nat} (h : PT E rr w K tv uv xs S lo) (h2 : Turned w w' (fun b => b = r)) (hr : E.Q < r) (hS : ∀ b,S b → b ≠ r) : PT E rr w' K tv uv xs S lo:=by
 obtain ⟨t,u,ls,s,h1,hs,h3,h4,h5,hl⟩:=h
 exact ⟨t,u,ls,s,h1,hs.kept h2.size (fun k hk => h2.block k (Nat.lt_of_le_of_lt hk hs.old) (fun e => by have e2 : k = r:=e;omega)),h3,h4,h5.turned h2 hS,hl⟩
def SN (w : World) (b1 : Nat) : Nat → Prop:=fun b => w.heap.size < b ∧ b < b1
theorem sn_ne {w : World} {b1 : Nat} {Q : Nat} (h : Q < w.heap.size) : ∀ b,SN w b1 b → ¬ b = Q:=fun b hb e => by have:=hb.1;omega
def EInv (w : World) (E : Env) (rr : Res) (b1 r f gk : Nat) (x : NV) (wr : World) : Prop :=
 ∃ d0 d1 : Bool,IterAt wr (b1 + 1) r ⟨#[60]⟩ 18 ⟨#[61,61]⟩ 19 d0 d1 ∧ (if d0 then 0 else 1) + (if d1 then 0 else 1) ≤ gk ∧ Turned w wr (fun b => b = E.Q) ∧ w.heap.size < wr.heap.size ∧ Blk wr w.heap.size 24 #[.int .i64 0,.string ⟨#[]⟩,.int .i64 0,.slice none 0 0] ∧
  Blk wr b1 24 #[.int .i64 x.kind,.string x.text,.int .i64 x.num,.slice x.a x.len x.cap] ∧ r < wr.heap.size ∧ PT E rr wr (KE E f d0 d1) ByteArray.empty ByteArray.empty [x] (SN w b1) 0
theorem pe_end {w W W2 : World} {E : Env} {rr : Res} {kd : Int} {tv uv : ByteArray} {xs : List NV} {b1 lo : Nat} {A : Option Addr} {n c : Nat} {u0 u1 u2 u3 : Value} (hQ : E.Q < w.heap.size) (ht : Turned w W (fun b => b = E.Q)) (hx : Blk W w.heap.size 24 #[u0,u1,u2,u3]) (ho : OwnN W (w.heap.size + 1) (.slice A n c) xs)
  (h : PT E rr W (fun t u ls s => .ok (.mk kd ⟨#[]⟩ 0 ls) s) tv uv xs (SR2 w b1 (.slice A n c)) lo) (hW2 : W2 = ((((W.setCell ⟨w.heap.size,0,none⟩ (.int .i64 kd)).setCell ⟨w.heap.size,1,none⟩ (.string ⟨#[]⟩)).setCell ⟨w.heap.size,2,none⟩ (.int .i64 0)).setCell ⟨w.heap.size,3,none⟩ (.slice A n c))) :
  Blk W2 w.heap.size 24 #[.int .i64 kd,.string ⟨#[]⟩,.int .i64 0,.slice A n c] ∧ PEnd E rr w (.returned (nvA ⟨kd,⟨#[]⟩,0,A,n,c⟩)) W2 :=
 pt_end (x:=⟨kd,⟨#[]⟩,0,A,n,c⟩) hQ ht hx (S:=fun b => w.heap.size < b) (fun b h => h) (PT.made (K:=fun _ _ _ n s => .ok n s) (fun _ _ => ⟨#[]⟩) (fun _ _ _ _ => rfl) ho (fun b h => h.1) (row_gt ho) h) hW2

set_option maxRecDepth 100000 in
set_option maxHeartbeats 3200000 in
theorem pexpr_any {f : Nat} (ihS : PCall f .sum 120) {E : Env} {s : PS} {w : World} (h : PAt w E s) (hout : run E.L E.e (f + 1) .expr s ≠ .out) : Calls Tryz.prog 108 #[.pointer (some ⟨E.Q,0,none⟩)] w (PEnd E (run E.L E.e (f + 1) .expr s) w):=by
 have HO0:=Lib.hid hout
 generalize hrr : run E.L E.e (f + 1) .expr s = rr at *
 have hr : rr = (fun (_ _ : Nd) (_ : List Nd) s => (run E.L E.e f .sum s).bind fun n s => (fun (t u : Nd) (_ : List Nd) n s => KE E f false false t u [n] s) nd0 nd0 [] n s) nd0 nd0 [] s:=by rw [← hrr];exact expr_eq E f s
 clear hrr hout
 have HQ:=Lib.hid h.old
 have NE : Hid (¬ w.heap.size = E.Q):=by have:=h.old;show ¬ _;omega
 have hfew:=h.few
 obtain ⟨o9,ho9⟩:=oZ
 have hb0:=bl w o9
 have HT:=Lib.hid (Turned.of_below (fun b => b = E.Q) hb0)
 have HX:=zB w
 have HZ:=zN w o9
 have HO:=Lib.hid (OwnN.nil (w.alloc o9) (w.heap.size + 1))
 subst ho9
 have HST : Hid (PT E rr (w.alloc (.cells #[.int .i64 0,.string ⟨#[]⟩,.int .i64 0,.slice none 0 0] 24)) (fun (_ _ : Nd) (_ : List Nd) s => (run E.L E.e f .sum s).bind fun n s => (fun (t u : Nd) (_ : List Nd) n s => KE E f false false t u [n] s) nd0 nd0 [] n s) ByteArray.empty ByteArray.empty [] (SR w (.slice none 0 0)) 0):=PT.below (K:=(fun (_ _ : Nd) (_ : List Nd) s => (run E.L E.e f .sum s).bind fun n s => (fun (t u : Nd) (_ : List Nd) n s => KE E f false false t u [n] s) nd0 nd0 [] n s)) ⟨nd0,nd0,[],s,hr,h,rfl,rfl,AllN.nil _ _,Nat.zero_le _⟩ hb0
 clear h hb0 hr
 go_enter Tryz.func108,Tryz.ntmps108
 replace HST : Hid (PT E rr _ (fun (t u : Nd) (ls : List Nd) s => (run E.L E.e f .sum s).bind fun n s => (fun (_ _ : Nd) (_ : List Nd) n s => KE E f false false nd0 nd0 [n] s) t u ls n s) _ _ _ _ _):=HST.out
 go_wp2_with fail
 (try rw [← (show (w.alloc (.cells #[.int .i64 0,.string ⟨#[]⟩,.int .i64 0,.slice none 0 0] 24)).heap.size = _ from World.size_alloc _ _)])
 generalize (w.alloc (.cells #[.int .i64 0,.string ⟨#[]⟩,.int .i64 0,.slice none 0 0] 24)) = w1 at *
 refine (pt_call (sr_ne HQ.out) ihS HO0.out (fun b hb => ⟨Nat.lt_of_lt_of_le HZ.out hb,fun e => Nat.lt_irrefl _ (Nat.lt_of_lt_of_le (HO.out.lt _ e).2 hb)⟩) HST.out).mono ?_
 rintro e w2 ⟨ht9,⟨v9,rfl,x_n,rfl,hst9⟩ | ⟨c9,p9,hr9,hc9,rfl⟩⟩
 rotate_left
 ·exact ⟨rfl,HT.out.then ht9,.inr ⟨_,_,hr9,hc9,rfl⟩⟩
 replace HX:=bT HX ht9 NE
 replace HO:=Lib.hid (HO.out.turned ht9 (row_ne HO.out HQ.out))
 replace HZ:=zT HZ ht9
 replace HT:=tT HT ht9
 replace HST:=Lib.hid hst9
 clear ht9 hst9
 have HPT:=Lib.hid (PT1.first (K:=KE E f false false) HST.out)
 obtain ⟨o9,ho9⟩:=oN x_n
 have HST2:=Lib.hid ((HPT.out.weak (S':=SN w w2.heap.size) (fun b hb h => ⟨h.1,hb⟩)).alloc o9)
 subst ho9
 clear HST HPT
 have HB:=Lib.hid (Blk.new w2 24 #[.int .i64 x_n.kind,.string x_n.text,.int .i64 x_n.num,.slice x_n.a x_n.len x_n.cap])
 have HZB:=HZ
 have NB : Hid (¬ w2.heap.size = E.Q):=by have h1:=HQ.out;have h2:=HZ.out;show ¬ _;omega
 obtain ⟨o9,ho9⟩:=oN x_n
 replace HX:=bA HX o9
 replace HT:=tA HT o9
 replace HZ : Hid (w.heap.size < (w2.alloc o9).heap.size):=by show _ < _;rw [World.size_alloc];exact Nat.lt_succ_of_lt HZ.out
 subst ho9
 clear HO
 obtain ⟨W1,W2,W3,W4,r,hmk,hi0,hi1,hrg,hit,hbl,hMr,hrz,-,-,-⟩:=map_two (w2.alloc (.cells #[.int .i64 x_n.kind,.string x_n.text,.int .i64 x_n.num,.slice x_n.a x_n.len x_n.cap] 24)) (M:=w2.heap.size + 1) (World.size_alloc _ _) ⟨#[60]⟩ 18 ⟨#[61,61]⟩ 19 (by decide) (by decide) (by decide)
 replace HX:=Lib.hid (HX.out.below hbl HX.out.lt)
 replace HB:=Lib.hid (HB.out.below hbl HB.out.lt)
 replace HT:=Lib.hid (HT.out.then (Turned.of_below _ hbl))
 replace HZ:=Lib.hid (Nat.lt_of_lt_of_le HZ.out hbl.size)
 have HST:=Lib.hid (HST2.out.below hbl)
 have HIT:=Lib.hid hit
 have HMR:=Lib.hid hMr
 have HRZ:=Lib.hid hrz
 clear hit hbl hMr hrz HST2
 go_wp2_with fail
 clear hmk hi0 hi1 hrg
 generalize w2.heap.size = b1 at *
 go_loopg [4,5] 2 (fun gk _ _ wr => EInv w E rr b1 r f gk x_n wr)
 case atStart => exact ⟨false,false,HIT.out,by decide,HT.out,HZ.out,HX.out,HB.out,HRZ.out,HST.out⟩
 case round =>
  clear HIT HT HZ HX HB HST HRZ
  obtain ⟨d0,d1,hit,hgk,ht,hz,hx,hb,hrz,hst⟩:=hrel
  have HT:=Lib.hid ht
  have HZ:=Lib.hid hz
  have HX:=Lib.hid hx
  have HB:=Lib.hid hb
  have HST:=Lib.hid hst
  have HRZ:=Lib.hid hrz
  clear ht hz hx hb hst hrz
  have hq9:=HQ.out
  have hm9:=HMR.out
  have hz9:=HZB.out
  have NR : Hid (¬ r = E.Q):=by show ¬ _;omega
  have NM : Hid (¬ b1 + 1 = E.Q):=by show ¬ _;omega
  clear hq9 hm9 hz9
  rcases hit.next 0 with ⟨rfl,rfl,hnx⟩ | ⟨rfl,w5,hnx,hit2,hen,htr⟩ | ⟨rfl,w5,hnx,hit2,hen,htr⟩
  ·skip
   have HST2 : Hid (PT1 E rr wr (fun _ _ _ n s => .ok n s) _ _ [] x_n (SN w b1) 0):=Lib.hid (PT.uncons (HST.out.congrL (fun t u ls s _ => ku_end t u ls s)))
   clear hit HST
   obtain ⟨u0,u1,u2,u3,g0,g1,g2,g3,gl⟩:=HX.out.f4
   obtain ⟨y0,y1,y2,y3,e0,e1,e2,e3,el⟩:=HB.out.f4
   go_wp2_with fail
   clear u0 u1 u2 u3 g0 g1 g2 g3 gl y0 y1 y2 y3 e0 e1 e2 e3 el hnx
   have HEND:=Lib.hid (pt_end (x:=x_n) HQ.out HT.out HX.out (fun b h => h.1) HST2.out rfl)
   refine open_post (fun W => Blk W w.heap.size 24 #[.int .i64 x_n.kind,.string x_n.text,.int .i64 x_n.num,.slice x_n.a x_n.len x_n.cap] ∧ PEnd E rr w (.returned (nvA x_n)) W) HEND.out ?_
   rintro W ⟨hb,hE⟩
   obtain ⟨v0,v1,v2,v3,-⟩:=hb.f4
   exact bodyPost_ret (v:=nvA x_n) (by simp [results,Tryz.results108,go_sem,nvA,v0,v1,v2,v3]) rfl hE
  ·skip
   have HIT:=Lib.hid hit2
   have HX2:=Lib.hid (htr.blk HX.out (fun e => by have e2 : w.heap.size = r:=e;have h1:=HMR.out;have h2:=HZB.out;omega))
   replace HX:=HX2
   clear HX2
   have HB2:=Lib.hid (htr.blk HB.out (fun e => by have e2 : b1 = r:=e;have h1:=HMR.out;omega))
   replace HB:=HB2
   clear HB2
   replace HT:=Lib.hid (HT.out.then_new htr (by have h1:=HMR.out;have h2:=HZB.out;omega))
   replace HZ:=zT HZ htr
   replace HRZ:=Lib.hid (Nat.lt_of_lt_of_le HRZ.out htr.size)
   replace HST:=Lib.hid (HST.out.iterN htr (by have h1:=HMR.out;have h2:=HQ.out;have h3:=HZB.out;omega) (fun b hb e => by have h1:=HMR.out;have h2:=hb.2;omega))
   have HGK:=Lib.hid hgk
   clear hit2 htr hit hgk
   have HST2 : Hid (PT E rr w5 (fun t u ls s => if seesP E.L ⟨#[60]⟩ s = true then (fun (_ _ : Nd) (ls : List Nd) s => eOne E f 18 (hdN ls) s) t u ls (stepP s) else (KE E f true d1) t u ls s) _ _ [x_n] _ 0):=Lib.hid (HST.out.congrL (fun t u ls s _ => ke_first t u ls s))
   replace HST:=HST2
   clear HST2
   go_wp2_with fail
   clear hnx hen
   refine (pt_takes (A:=(fun (_ _ : Nd) (ls : List Nd) s => eOne E f 18 (hdN ls) s)) (B:=(KE E f true d1)) (sn_ne HQ.out) ⟨#[60]⟩ HST.out).mono ?_
   rintro e w6 ⟨b9,rfl,ht9,hy9,hn9⟩
   replace HIT:=Lib.hid (HIT.out.kept (ht9.block _ (Nat.lt_trans HMR.out HRZ.out) NM.out) (ht9.block _ HRZ.out NR.out))
   replace HRZ:=Lib.hid (Nat.lt_of_lt_of_le HRZ.out ht9.size)
   replace HX:=bT HX ht9 NE
   replace HB:=bT HB ht9 NB
   replace HZ:=zT HZ ht9
   replace HT:=tT HT ht9
   clear ht9 HST
   cases b9
   ·have HST:=Lib.hid (hn9 rfl)
    clear hy9 hn9
    go_wp2_with fail
    go_roundg (gk - 1)
    case measure => have h:=HGK.out;simp at h;omega
    case rel => exact ⟨true,d1,HIT.out,by have h:=HGK.out;simp at h ⊢;omega,HT.out,HZ.out,HX.out,HB.out,HRZ.out,HST.out⟩
   ·have HST:=Lib.hid (hy9 rfl)
    clear hy9 hn9
    go_wp2_with fail
    replace HX : Hid (Blk w6.drew w.heap.size 24 #[.int .i64 0,.string ⟨#[]⟩,.int .i64 0,.slice none 0 0]):=HX.out.drewN 1
    replace HB : Hid (Blk w6.drew b1 24 #[.int .i64 x_n.kind,.string x_n.text,.int .i64 x_n.num,.slice x_n.a x_n.len x_n.cap]):=HB.out.drewN 1
    replace HZ : Hid (w.heap.size < w6.drew.heap.size):=HZ.out
    replace HT : Hid (Turned w w6.drew (fun b => b = E.Q)):=HT.out.drewN 1
    have HST2 : Hid (PT E rr w6.drew (fun (t u : Nd) (ls : List Nd) s => (run E.L E.e f .sum s).bind fun k s => (fun (t u : Nd) (ls : List Nd) k s => (fun (t u : Nd) (ls : List Nd) (s : PS) => (fun (_ _ : Nd) (ls : List Nd) (s : PS) => Res.ok (.mk 18 ⟨#[]⟩ 0 ls) s) t u ls ⟨s.i,s.dep,s.many + 1⟩) t u (ls ++ [k]) s) t u ls k s) ByteArray.empty ByteArray.empty [x_n] (SB w b1) (0 + 1)):=(((HST.out.congrL (K':=(fun (t u : Nd) (ls : List Nd) s => (run E.L E.e f .sum s).bind fun k s => (fun (t u : Nd) (ls : List Nd) k s => (fun (t u : Nd) (ls : List Nd) (s : PS) => (fun (_ _ : Nd) (ls : List Nd) (s : PS) => Res.ok (.mk 18 ⟨#[]⟩ 0 ls) s) t u ls ⟨s.i,s.dep,s.many + 1⟩) t u (ls ++ [k]) s) t u ls k s)) (fun t u ls s hl => by
       match ls,hl with
       | [n],_ => rfl)).weak (S':=SB w b1) (fun b _ h => ⟨h.1,Nat.ne_of_lt h.2⟩)).below (belowN w6.heap.size w6 1))
    clear HST
    have HCALL:=Lib.hid ((pt_call (sb_ne HQ.out) ihS HO0.out (fun b hb => ⟨Nat.lt_of_lt_of_le HZ.out hb,Nat.ne_of_gt (Nat.lt_of_lt_of_le HB.out.lt hb)⟩) HST2.out).mono (fun _ _ h => way_open h))
    clear HST2
    obtain ⟨y0,y1,y2,y3,e0,e1,e2,e3,el⟩:=HB.out.f4
    go_region_law (first
      | (go_simp;go_at_call 120;with_reducible refine HCALL.out.mono ?_;rintro e w9 ⟨ht9,⟨v9,rfl,x_k,rfl,hst9⟩ | ⟨c9,p9,hr9,hc9,rfl⟩⟩;rotate_left;exact throw_out rfl (throw_end (HT.out.then ht9) hr9 hc9);have HF:=Lib.hid (chain_next (K:=(fun (t u : Nd) (ls : List Nd) (s : PS) => (fun (_ _ : Nd) (ls : List Nd) (s : PS) => Res.ok (.mk 18 ⟨#[]⟩ 0 ls) s) t u ls ⟨s.i,s.dep,s.many + 1⟩)) HQ.out HT.out ht9 HX.out HB.out HZB.out hst9);clear ht9 hst9;obtain ⟨y0,y1,y2,y3,e0,e1,e2,e3,el⟩:=HF.out.2.1.f4;have HNODE:=Lib.hid (pt_node (K:=(fun (_ _ : Nd) (ls : List Nd) (s : PS) => Res.ok (.mk 18 ⟨#[]⟩ 0 ls) s)) (sr2_ne HQ.out) 18 ⟨#[]⟩ (some ⟨w9.heap.size,0,none⟩) 2 2 HF.out.2.2.2.2))
      | (go_simp;go_at_call 66;with_reducible refine HNODE.out.mono ?_;rintro e w10 ⟨rfl,ht10,hst10⟩;have HG:=Lib.hid (And.intro ht10 hst10);clear ht10 hst10;obtain ⟨u0,u1,u2,u3,g0,g1,g2,g3,gl⟩:=(HG.out.1.blk (HF.out.1.alloc _) NE.out).f4))
    all_goals
     clear y0 y1 y2 y3 e0 e1 e2 e3 el u0 u1 u2 u3 g0 g1 g2 g3 gl HNODE HCALL
     have HEND:=Lib.hid (pe_end (kd:=18) HQ.out ((HF.out.2.2.1.alloc _).then HG.out.1) (HG.out.1.blk (HF.out.1.alloc _) NE.out) (HF.out.2.2.2.1.turned HG.out.1 (row_ne HF.out.2.2.2.1 HQ.out)) HG.out.2 rfl)
     go_wp2_with fail
     refine open_post (fun W => Blk W w.heap.size 24 #[.int .i64 18,.string ⟨#[]⟩,.int .i64 0,.slice (some ⟨w9.heap.size,0,none⟩) 2 2] ∧ PEnd E rr w (.returned (nvA ⟨18,⟨#[]⟩,0,some ⟨w9.heap.size,0,none⟩,2,2⟩)) W) HEND.out ?_
     rintro W ⟨hb,hE⟩
     obtain ⟨v0,v1,v2,v3,-⟩:=hb.f4
     exact bodyPost_ret (v:=nvA ⟨18,⟨#[]⟩,0,some ⟨w9.heap.size,0,none⟩,2,2⟩) (by simp [results,Tryz.results108,go_sem,nvA,v0,v1,v2,v3]) rfl hE
  ·skip
   have HIT:=Lib.hid hit2
   have HX2:=Lib.hid (htr.blk HX.out (fun e => by have e2 : w.heap.size = r:=e;have h1:=HMR.out;have h2:=HZB.out;omega))
   replace HX:=HX2
   clear HX2
   have HB2:=Lib.hid (htr.blk HB.out (fun e => by have e2 : b1 = r:=e;have h1:=HMR.out;omega))
   replace HB:=HB2
   clear HB2
   replace HT:=Lib.hid (HT.out.then_new htr (by have h1:=HMR.out;have h2:=HZB.out;omega))
   replace HZ:=zT HZ htr
   replace HRZ:=Lib.hid (Nat.lt_of_lt_of_le HRZ.out htr.size)
   replace HST:=Lib.hid (HST.out.iterN htr (by have h1:=HMR.out;have h2:=HQ.out;have h3:=HZB.out;omega) (fun b hb e => by have h1:=HMR.out;have h2:=hb.2;omega))
   have HGK:=Lib.hid hgk
   clear hit2 htr hit hgk
   have HST2 : Hid (PT E rr w5 (fun t u ls s => if seesP E.L ⟨#[61,61]⟩ s = true then (fun (_ _ : Nd) (ls : List Nd) s => eOne E f 19 (hdN ls) s) t u ls (stepP s) else (KE E f d0 true) t u ls s) _ _ [x_n] _ 0):=Lib.hid (HST.out.congrL (fun t u ls s _ => ke_second t u ls s))
   replace HST:=HST2
   clear HST2
   go_wp2_with fail
   clear hnx hen
   refine (pt_takes (A:=(fun (_ _ : Nd) (ls : List Nd) s => eOne E f 19 (hdN ls) s)) (B:=(KE E f d0 true)) (sn_ne HQ.out) ⟨#[61,61]⟩ HST.out).mono ?_
   rintro e w6 ⟨b9,rfl,ht9,hy9,hn9⟩
   replace HIT:=Lib.hid (HIT.out.kept (ht9.block _ (Nat.lt_trans HMR.out HRZ.out) NM.out) (ht9.block _ HRZ.out NR.out))
   replace HRZ:=Lib.hid (Nat.lt_of_lt_of_le HRZ.out ht9.size)
   replace HX:=bT HX ht9 NE
   replace HB:=bT HB ht9 NB
   replace HZ:=zT HZ ht9
   replace HT:=tT HT ht9
   clear ht9 HST
   cases b9
   ·have HST:=Lib.hid (hn9 rfl)
    clear hy9 hn9
    go_wp2_with fail
    go_roundg (gk - 1)
    case measure => have h:=HGK.out;simp at h;omega
    case rel => exact ⟨d0,true,HIT.out,by have h:=HGK.out;simp at h ⊢;omega,HT.out,HZ.out,HX.out,HB.out,HRZ.out,HST.out⟩
   ·have HST:=Lib.hid (hy9 rfl)
    clear hy9 hn9
    go_wp2_with fail
    replace HX : Hid (Blk w6.drew w.heap.size 24 #[.int .i64 0,.string ⟨#[]⟩,.int .i64 0,.slice none 0 0]):=HX.out.drewN 1
    replace HB : Hid (Blk w6.drew b1 24 #[.int .i64 x_n.kind,.string x_n.text,.int .i64 x_n.num,.slice x_n.a x_n.len x_n.cap]):=HB.out.drewN 1
    replace HZ : Hid (w.heap.size < w6.drew.heap.size):=HZ.out
    replace HT : Hid (Turned w w6.drew (fun b => b = E.Q)):=HT.out.drewN 1
    have HST2 : Hid (PT E rr w6.drew (fun (t u : Nd) (ls : List Nd) s => (run E.L E.e f .sum s).bind fun k s => (fun (t u : Nd) (ls : List Nd) k s => (fun (t u : Nd) (ls : List Nd) (s : PS) => (fun (_ _ : Nd) (ls : List Nd) (s : PS) => Res.ok (.mk 19 ⟨#[]⟩ 0 ls) s) t u ls ⟨s.i,s.dep,s.many + 1⟩) t u (ls ++ [k]) s) t u ls k s) ByteArray.empty ByteArray.empty [x_n] (SB w b1) (0 + 1)):=(((HST.out.congrL (K':=(fun (t u : Nd) (ls : List Nd) s => (run E.L E.e f .sum s).bind fun k s => (fun (t u : Nd) (ls : List Nd) k s => (fun (t u : Nd) (ls : List Nd) (s : PS) => (fun (_ _ : Nd) (ls : List Nd) (s : PS) => Res.ok (.mk 19 ⟨#[]⟩ 0 ls) s) t u ls ⟨s.i,s.dep,s.many + 1⟩) t u (ls ++ [k]) s) t u ls k s)) (fun t u ls s hl => by
       match ls,hl with
       | [n],_ => rfl)).weak (S':=SB w b1) (fun b _ h => ⟨h.1,Nat.ne_of_lt h.2⟩)).below (belowN w6.heap.size w6 1))
    clear HST
    have HCALL:=Lib.hid ((pt_call (sb_ne HQ.out) ihS HO0.out (fun b hb => ⟨Nat.lt_of_lt_of_le HZ.out hb,Nat.ne_of_gt (Nat.lt_of_lt_of_le HB.out.lt hb)⟩) HST2.out).mono (fun _ _ h => way_open h))
    clear HST2
    obtain ⟨y0,y1,y2,y3,e0,e1,e2,e3,el⟩:=HB.out.f4
    go_region_law (first
      | (go_simp;go_at_call 120;with_reducible refine HCALL.out.mono ?_;rintro e w9 ⟨ht9,⟨v9,rfl,x_k,rfl,hst9⟩ | ⟨c9,p9,hr9,hc9,rfl⟩⟩;rotate_left;exact throw_out rfl (throw_end (HT.out.then ht9) hr9 hc9);have HF:=Lib.hid (chain_next (K:=(fun (t u : Nd) (ls : List Nd) (s : PS) => (fun (_ _ : Nd) (ls : List Nd) (s : PS) => Res.ok (.mk 19 ⟨#[]⟩ 0 ls) s) t u ls ⟨s.i,s.dep,s.many + 1⟩)) HQ.out HT.out ht9 HX.out HB.out HZB.out hst9);clear ht9 hst9;obtain ⟨y0,y1,y2,y3,e0,e1,e2,e3,el⟩:=HF.out.2.1.f4;have HNODE:=Lib.hid (pt_node (K:=(fun (_ _ : Nd) (ls : List Nd) (s : PS) => Res.ok (.mk 19 ⟨#[]⟩ 0 ls) s)) (sr2_ne HQ.out) 19 ⟨#[]⟩ (some ⟨w9.heap.size,0,none⟩) 2 2 HF.out.2.2.2.2))
      | (go_simp;go_at_call 66;with_reducible refine HNODE.out.mono ?_;rintro e w10 ⟨rfl,ht10,hst10⟩;have HG:=Lib.hid (And.intro ht10 hst10);clear ht10 hst10;obtain ⟨u0,u1,u2,u3,g0,g1,g2,g3,gl⟩:=(HG.out.1.blk (HF.out.1.alloc _) NE.out).f4))
    all_goals
     clear y0 y1 y2 y3 e0 e1 e2 e3 el u0 u1 u2 u3 g0 g1 g2 g3 gl HNODE HCALL
     have HEND:=Lib.hid (pe_end (kd:=19) HQ.out ((HF.out.2.2.1.alloc _).then HG.out.1) (HG.out.1.blk (HF.out.1.alloc _) NE.out) (HF.out.2.2.2.1.turned HG.out.1 (row_ne HF.out.2.2.2.1 HQ.out)) HG.out.2 rfl)
     go_wp2_with fail
     refine open_post (fun W => Blk W w.heap.size 24 #[.int .i64 19,.string ⟨#[]⟩,.int .i64 0,.slice (some ⟨w9.heap.size,0,none⟩) 2 2] ∧ PEnd E rr w (.returned (nvA ⟨19,⟨#[]⟩,0,some ⟨w9.heap.size,0,none⟩,2,2⟩)) W) HEND.out ?_
     rintro W ⟨hb,hE⟩
     obtain ⟨v0,v1,v2,v3,-⟩:=hb.f4
     exact bodyPost_ret (v:=nvA ⟨19,⟨#[]⟩,0,some ⟨w9.heap.size,0,none⟩,2,2⟩) (by simp [results,Tryz.results108,go_sem,nvA,v0,v1,v2,v3]) rfl hE
end Go.Proofs.YtbpldfmmlgkfnaaGreatDoor
