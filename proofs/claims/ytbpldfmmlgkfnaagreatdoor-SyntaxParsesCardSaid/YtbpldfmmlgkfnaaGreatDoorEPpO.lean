/- The program's parser: classes. Conditions: what blocks do. -/
import Derived.Test.YtbpldfmmlgkfnaaGreatDoorEMemZ
import Derived.Test.YtbpldfmmlgkfnaaGreatDoorEPpK
import Derived.Test.YtbpldfmmlgkfnaaGreatDoorEPpW
import Derived.Test.YtbpldfmmlgkfnaaGreatDoorERpN
import Derived.Deep.CutRange
import Derived.Deep.DeepCutAuto
namespace Go.Proofs.YtbpldfmmlgkfnaaGreatDoor
open Go.RowKit
set_option linter.unusedVariables false
theorem pend_up {wz : World} {E : Env} {rr : Res} {o : Obj} {e : Ending} {W : World} (h : PEnd E rr (wz.alloc o) e W) : PEnd E rr wz e W:=by
 obtain ⟨ht,hq⟩:=h
 have h0:=(Turned.refl wz (fun b => b = E.Q)).alloc o
 refine ⟨h0.then ht,?_⟩
 rcases hq with ⟨v,rfl,n,s,x,h1,h2,h3,h4⟩ | hq
 ·exact .inl ⟨v,rfl,n,s,x,h1,h2,h3,h4.weak (fun b _ hb => Nat.le_trans h0.size hb)⟩
 ·exact .inr hq
theorem size_up {W : World} {n : Nat} (h : n < W.heap.size) (o : Obj) : n + 1 ≤ (W.alloc o).heap.size:=by rw [World.size_alloc];omega
theorem pslots_open {E : Env} {rr : Res} {w : World} {tv uv : ByteArray} {xs : List NV} {S : Nat → Prop} {lo f g : Nat} (ho : rr ≠ .out) (h : PT E rr w (fun t _ ls s => (run E.L E.e g (.slotsL ls) s).bind (clsK2 E f t)) tv uv xs S lo) :
  ∃ g',g' < g ∧ PT E rr w (fun t u ls s => if seesP E.L ⟨#[115,108,111,116]⟩ s = true then (fun (t _ : Nd) (ls : List Nd) s => (nameP E.L E.e s).bind fun u s => (fun (t u : Nd) (ls : List Nd) (s : PS) => (fun (t u : Nd) (ls : List Nd) (s : PS) => (fun (t _ : Nd) (ls : List Nd) (n : Nd) s => (wantP E.L E.e ⟨#[59]⟩ s).bind fun _ s => (run E.L E.e g' (.slotsL (ls ++ [n])) s).bind (clsK2 E f t)) t u ls (.mk 3 u.text 0 []) s) t u ls ⟨s.i,s.dep,s.many + 1⟩) t u ls s) t u ls (stepP s) else (fun (t _ : Nd) (ls : List Nd) s => clsK2 E f t (ndL ls) s) t u ls s) tv uv xs S lo:=by
 cases g with
 | zero => exact absurd (h.notout (fun t u ls s => rfl)) ho
 | succ g =>
  refine ⟨g,Nat.lt_succ_self _,h.congrL (fun t u ls s _ => ?_)⟩
  simp only [run,tx_slot,tx_semi,nodeP]
  split
  ·simp only [bind_assoc,ok_bind]
   congr 1
   funext u s
   exact (want_made E.L E.e ⟨#[59]⟩ s (fun s => (run E.L E.e g (.slotsL (ls ++ [.mk 3 u.text 0 []])) s).bind (clsK2 E f t))).symm
  ·rfl
theorem pmeths_open {E : Env} {rr : Res} {w : World} {tv uv : ByteArray} {xs : List NV} {S : Nat → Prop} {lo g : Nat} (ho : rr ≠ .out) (h : PT E rr w (fun t _ ls s => (run E.L E.e g (.methsL ls) s).bind (clsK3 E t)) tv uv xs S lo) :
  ∃ g',g' + 1 < g ∧ PT E rr w (fun t u ls s => if seesP E.L ⟨#[116,111]⟩ s = true then (fun (t _ : Nd) (ls : List Nd) s => (nameP E.L E.e s).bind fun u s => (fun (t u : Nd) (ls : List Nd) (s : PS) => (fun (t u : Nd) (ls : List Nd) (s : PS) => (methX E g' u s).bind fun k s => (run E.L E.e (g' + 1) (.methsL (ls ++ [k])) s).bind (clsK3 E t)) t u ls ⟨s.i,s.dep,s.many + 1⟩) t u ls s) t u ls (stepP s) else (fun (t _ : Nd) (ls : List Nd) s => clsK3 E t (ndL ls) s) t u ls s) tv uv xs S lo ∨ ∃ X : Nd → Nd → List Nd → PS → Res,(∀ t u ls s,X t u ls s = .out) ∧ PT E rr w (fun t u ls s => if seesP E.L ⟨#[116,111]⟩ s = true then X t u ls (stepP s) else (fun (t _ : Nd) (ls : List Nd) s => clsK3 E t (ndL ls) s) t u ls s) tv uv xs S lo:=by
 cases g with
 | zero => exact absurd (h.notout (fun t u ls s => rfl)) ho
 | succ g =>
  cases g with
  | zero =>
   refine ⟨0,.inr ⟨fun _ _ _ _ => .out,fun _ _ _ _ => rfl,h.congrL (fun t u ls s _ => ?_)⟩⟩
   simp only [run,tx_to]
   split <;> rfl
  | succ g =>
   refine ⟨g,.inl ⟨by omega,h.congrL (fun t u ls s _ => ?_)⟩⟩
   rw [show run E.L E.e (g + 1 + 1) (.methsL ls) s = (if seesP E.L (tx "to") s = true then (run E.L E.e (g + 1) .meth (stepP s)).bind fun k s => run E.L E.e (g + 1) (.methsL (ls ++ [k])) s else .ok (ndL ls) s) by simp only [run]]
   rw [tx_to]
   split
   ·rw [meth_eq]
    simp only [bind_assoc]
   ·rfl

theorem one_le (x : NV) : [x].length ≤ 1000000:=by simp
/-- What a loop over a class's rows holds. -/
def KInv (w : World) (E : Env) (rr : Res) (cmd : List Nd → Cmd) (K : Nd → Nd → PS → Res) (f m gk : Nat) (v : Value) (tv : ByteArray) (wr : World) : Prop :=
 Turned w wr (fun b => b = E.Q) ∧ w.heap.size < wr.heap.size ∧ Blk wr w.heap.size 24 #[.int .i64 0,.string ⟨#[]⟩,.int .i64 0,.slice none 0 0] ∧
  ∃ A n c xs uv g i,v = .slice A n c ∧ OwnN wr (w.heap.size + 1) (.slice A n c) xs ∧ xs.length ≤ m + i ∧ i ≤ E.L.length ∧ E.L.length - i ≤ gk ∧ g ≤ f ∧ PT E rr wr (fun t (_ : Nd) ls s => (run E.L E.e g (cmd ls) s).bind (K t)) tv uv xs (SR w (.slice A n c)) i
/-- A method's box. -/
def mCells (u : ByteArray) (k : Nat) (A : Option Addr) (n c : Nat) : Array Value:=#[.int .i64 4,.string u,.int .i64 (k : Int),.slice A n c]
/-- Behind a method's name. -/
def M1 (w : World) (E : Env) (rr : Res) (K : Nd → Nd → List Nd → PS → Res) (t : ByteArray) (v : Value) (ys : List NV) (lo : Nat) (m : Value) (wx : World) : Prop :=
 ∃ bm u,m = .pointer (some ⟨bm,0,none⟩) ∧ Turned w wx (fun b => b = E.Q) ∧ w.heap.size < wx.heap.size ∧ Blk wx w.heap.size 24 #[.int .i64 0,.string ⟨#[]⟩,.int .i64 0,.slice none 0 0] ∧ OwnN wx (w.heap.size + 1) v ys ∧ Blk wx bm 24 #[.int .i64 4,.string u,.int .i64 0,.slice none 0 0] ∧ w.heap.size < bm ∧ v.ownBlock ≠ some bm ∧
  PT E rr wx K t u ys (fun b => SR w v b ∧ b ≠ bm) lo
theorem m1_make {w W : World} {E : Env} {rr : Res} {K : Nd → Nd → List Nd → PS → Res} {t u : ByteArray} {v : Value} {ys : List NV} {lo : Nat} (ht : Turned w W (fun b => b = E.Q)) (hz : w.heap.size < W.heap.size) (hx : Blk W w.heap.size 24 #[.int .i64 0,.string ⟨#[]⟩,.int .i64 0,.slice none 0 0]) (ho : OwnN W (w.heap.size + 1) v ys) (h : PT E rr W K t u ys (SR w v) lo) :
  M1 w E rr K t v ys lo (.pointer (some ⟨W.heap.size,0,none⟩)) (W.alloc (.cells #[.int .i64 4,.string u,.int .i64 0,.slice none 0 0] 24)) :=
 ⟨W.heap.size,u,rfl,ht.alloc _,by rw [World.size_alloc];omega,hx.alloc _,ho.alloc _,Blk.new _ _ _,hz,fun e => Nat.lt_irrefl _ (ho.lt _ e).2,(h.weak (fun b hb hs => ⟨hs,Nat.ne_of_lt hb⟩)).alloc _⟩
theorem m1_store {w W : World} {E : Env} {rr : Res} {K : Nd → Nd → List Nd → PS → Res} {t u : ByteArray} {v : Value} {ys : List NV} {lo bm : Nat} (hQ : E.Q < w.heap.size) (ht : Turned w W (fun b => b = E.Q)) (hz : w.heap.size < W.heap.size) (hx : Blk W w.heap.size 24 #[.int .i64 0,.string ⟨#[]⟩,.int .i64 0,.slice none 0 0]) (ho : OwnN W (w.heap.size + 1) v ys) (hb : Blk W bm 24 #[.int .i64 0,.string ⟨#[]⟩,.int .i64 0,.slice none 0 0]) (hbl : w.heap.size < bm) (hbo : v.ownBlock ≠ some bm) (h : PT E rr W K t u ys (fun b => SR w v b ∧ b ≠ bm) lo) :
  ∀ W2,W2 = ((((W.setCell ⟨bm,0,none⟩ (.int .i64 4)).setCell ⟨bm,1,none⟩ (.string u)).setCell ⟨bm,2,none⟩ (.int .i64 0)).setCell ⟨bm,3,none⟩ (.slice none 0 0)) → M1 w E rr K t v ys lo (.pointer (some ⟨bm,0,none⟩)) W2:=by
 intro W2 hW
 have hk:=box_node ht hb (Nat.le_of_lt hbl) (.int .i64 4) (.string u) (.int .i64 0) (.slice none 0 0)
 have hs:=((((Turned.refl W (fun b => b = bm)).setCell (p:=⟨bm,0,none⟩) (.inl rfl) (.int .i64 4)).setCell (p:=⟨bm,1,none⟩) (.inl rfl) (.string u)).setCell (p:=⟨bm,2,none⟩) (.inl rfl) (.int .i64 0)).setCell (p:=⟨bm,3,none⟩) (.inl rfl) (.slice none 0 0)
 rw [← hW] at hk hs
 obtain ⟨k1,k2,k3,k4⟩:=hk
 have hx2:=(k3 _ (Nat.ne_of_lt hbl)).trans hx
 have ho2 : OwnN W2 (w.heap.size + 1) v ys:=ho.turned hs (fun k hk e => hbo (by rw [hk,show k = bm from e]))
 have hp2 : PT E rr W2 K t u ys (fun b => SR w v b ∧ b ≠ bm) lo:=h.keep (fun s hs => hs.kept (Nat.le_of_eq k4.symm) (fun k hk => k3 k (by omega))) (Nat.le_of_eq k4.symm) (fun b _ hb => k3 b hb.2) (fun b _ hb => hb)
 exact ⟨bm,u,rfl,k1,by rw [k4];exact hz,hx2,ho2,k2,hbl,hbo,hp2⟩
theorem own_not {w : World} {base : Nat} {v : Value} {ys : List NV} (h : OwnN w base v ys) : v.ownBlock ≠ some w.heap.size:=fun e => Nat.lt_irrefl _ (h.lt _ e).2
theorem sm_ne {w : World} {v : Value} {Q bm : Nat} (h : Q < w.heap.size) : ∀ b,(SR w v b ∧ b ≠ bm) → ¬ b = Q:=fun b hb => sr_ne h b hb.1
theorem m1_mid {w c w9 w10 : World} {E : Env} {rr : Res} {K : Nd → Nd → List Nd → PS → Res} {t u : ByteArray} {v : Value} {ys : List NV} {lo : Nat} (hQ : E.Q < w.heap.size) (hz : w.heap.size < c.heap.size) (ht : Turned w c (fun b => b = E.Q)) (h9 : Turned c w9 (fun b => b = E.Q)) (hx : Blk c w.heap.size 24 #[.int .i64 0,.string ⟨#[]⟩,.int .i64 0,.slice none 0 0]) (ho : OwnN c (w.heap.size + 1) v ys) (h10 : Turned (w9.alloc (.cells #[.int .i64 0,.string ⟨#[]⟩,.int .i64 0,.slice none 0 0] 24)) w10 (fun b => b = E.Q)) (h : PT E rr w10 K t u ys (fun b => SR w v b ∧ b ≠ w9.heap.size) lo) :
  (∀ W2,W2 = ((((w10.setCell ⟨w9.heap.size,0,none⟩ (.int .i64 4)).setCell ⟨w9.heap.size,1,none⟩ (.string u)).setCell ⟨w9.heap.size,2,none⟩ (.int .i64 0)).setCell ⟨w9.heap.size,3,none⟩ (.slice none 0 0)) → M1 w E rr K t v ys lo (.pointer (some ⟨w9.heap.size,0,none⟩)) W2) ∧ Blk w10 w9.heap.size 24 #[.int .i64 0,.string ⟨#[]⟩,.int .i64 0,.slice none 0 0]:=by
 have hz9 : w.heap.size < w9.heap.size:=Nat.lt_of_lt_of_le hz h9.size
 have hb : Blk w10 w9.heap.size 24 #[.int .i64 0,.string ⟨#[]⟩,.int .i64 0,.slice none 0 0]:=h10.blk (Blk.new w9 _ _) (fun e => by have e2 : w9.heap.size = E.Q:=e;omega)
 have ho9:=ho.turned h9 (row_ne ho hQ)
 obtain ⟨oz9,hz9⟩:=oZ
 have hoa:=ho9.alloc oz9
 subst hz9
 exact ⟨m1_store hQ (((ht.then h9).alloc _).then h10) (Nat.lt_of_lt_of_le (by rw [World.size_alloc];omega) h10.size) (h10.blk ((h9.blk hx (fun e => by have e2 : w.heap.size = E.Q:=e;omega)).alloc _) (fun e => by have e2 : w.heap.size = E.Q:=e;omega)) (hoa.turned h10 (row_ne hoa hQ)) hb hz9 (own_not ho9) h,hb⟩
theorem mo_listM (E : Env) (g : Nat) (s : PS) (n : Nd) (s' : PS) (h : listM E g s = .ok n s') : s.i ≤ s'.i:=by
 have hm : Mo (s.i + 1) (listM E g s):=by
  unfold listM
  refine mo_bind (lo:=s.i + 1) mo_want fun _ s1 h1 => ?_
  refine mo_bif (mo_ok (Nat.le_refl _)) (mo_run (run_mono E.L E.e g (.parmsL []) s1) (Nat.le_add_right _ _)) fun a s2 h2 => ?_
  unfold finL
  exact mo_bind (lo:=s2.i + 1) mo_want fun _ s3 h3 => mo_ok (by omega)
 have:=hm n s' h
 omega
set_option maxRecDepth 100000 in
set_option maxHeartbeats 16000000 in
theorem pclass_any {f : Nat} (ihB : ∀ g,g ≤ f → PCall g .block 64) {E : Env} {s : PS} {wz : World} (h : PAt wz E s) (hout : run E.L E.e (f + 1) .cls s ≠ .out) : Calls Tryz.prog 62 #[.pointer (some ⟨E.Q,0,none⟩)] wz (PEnd E (run E.L E.e (f + 1) .cls s) wz):=by
 have HO0:=Lib.hid hout
 generalize hrr : run E.L E.e (f + 1) .cls s = rr at *
 have hr : rr = (fun (_ u : Nd) (ls : List Nd) s => (nameP E.L E.e s).bind fun t s => (if seesP E.L ⟨#[58]⟩ s = true then (nameP E.L E.e (stepP s)).bind fun u s => (Res.ok (.mk 31 u.text 0 []) ⟨s.i,s.dep,s.many + 1⟩).bind fun k s => Res.ok (ndL [k]) s else Res.ok (ndL []) s).bind (clsK1 E f t)) nd0 nd0 [] s:=by rw [← hrr];simp only [run,nodeP,tx_col,tx_lb,tx_rb];rfl
 clear hrr hout
 have HUP : Hid (∀ e W,PEnd E rr (wz.alloc (.cells #[.pointer (some ⟨E.Q,0,none⟩)] 89)) e W → PEnd E rr wz e W):=fun e W h => pend_up h
 have hQz:=h.old
 have h2:=h.alloc (.cells #[.pointer (some ⟨E.Q,0,none⟩)] 89)
 have hB0:=Blk.new wz 89 #[.pointer (some ⟨E.Q,0,none⟩)]
 have hfew:=h.few
 clear h
 obtain ⟨w,hw⟩ : ∃ w,w = wz.alloc (.cells #[.pointer (some ⟨E.Q,0,none⟩)] 89):=⟨_,rfl⟩
 have hsz : wz.heap.size + 1 = w.heap.size:=by rw [hw,World.size_alloc]
 rw [← hw] at HUP h2 hB0
 have HUP:=HUP
 have HBB:=Lib.hid hB0
 have NBB : Hid (¬ wz.heap.size = E.Q):=by show ¬ _;omega
 have HQ : Hid (E.Q < w.heap.size):=by show _ < _;omega
 have NE : Hid (¬ w.heap.size = E.Q):=by show ¬ _;omega
 obtain ⟨oz9,hz9⟩:=oZ
 have hb0:=bl w oz9
 have HT:=Lib.hid (Turned.of_below (fun b => b = E.Q) hb0)
 have HX:=zB w
 have HZ:=zN w oz9
 have HO:=Lib.hid (OwnN.nil (w.alloc oz9) (w.heap.size + 1))
 subst hz9
 have HST : Hid (PT E rr (w.alloc (.cells #[.int .i64 0,.string ⟨#[]⟩,.int .i64 0,.slice none 0 0] 24)) (fun (_ u : Nd) (ls : List Nd) s => (nameP E.L E.e s).bind fun t s => (if seesP E.L ⟨#[58]⟩ s = true then (nameP E.L E.e (stepP s)).bind fun u s => (Res.ok (.mk 31 u.text 0 []) ⟨s.i,s.dep,s.many + 1⟩).bind fun k s => Res.ok (ndL [k]) s else Res.ok (ndL []) s).bind (clsK1 E f t)) ByteArray.empty ByteArray.empty [] (SR w (.slice none 0 0)) 0):=PT.below (K:=(fun (_ u : Nd) (ls : List Nd) s => (nameP E.L E.e s).bind fun t s => (if seesP E.L ⟨#[58]⟩ s = true then (nameP E.L E.e (stepP s)).bind fun u s => (Res.ok (.mk 31 u.text 0 []) ⟨s.i,s.dep,s.many + 1⟩).bind fun k s => Res.ok (ndL [k]) s else Res.ok (ndL []) s).bind (clsK1 E f t))) ⟨nd0,nd0,[],s,hr,h2,rfl,rfl,AllN.nil _ _,Nat.zero_le _⟩ hb0
 have HW:=Lib.hid hw
 have HSZ:=Lib.hid hsz
 clear h2 hb0 hr hB0 hw hsz
 go_enter Tryz.func62,Tryz.ntmps62
 go_wp2_with fail
 rw [← HW.out,HSZ.out]
 generalize (w.alloc (.cells #[.int .i64 0,.string ⟨#[]⟩,.int .i64 0,.slice none 0 0] 24)) = w1 at *
 clear HW HSZ hQz
 generalize wz.heap.size = B at *
 refine (pt_name1 (sr_ne HQ.out) HST.out).mono ?_
 rintro e w2 ⟨ht9,⟨v9,rfl,t,rfl,hst9⟩ | ⟨c9,p9,hr9,hc9,rfl⟩⟩
 rotate_left
 ·exact ⟨rfl,HUP.out _ _ (throw_end (HT.out.then ht9) hr9 hc9)⟩
 replace HX:=bT HX ht9 NE
 replace HO:=Lib.hid (HO.out.turned ht9 (row_ne HO.out HQ.out))
 replace HZ:=zT HZ ht9
 replace HT:=tT HT ht9
 replace HST:=Lib.hid hst9
 clear ht9 hst9
 replace HST:=Lib.hid (PT.nil (K':=fun t u ls s => if seesP E.L ⟨#[58]⟩ s = true then (fun (t _ : Nd) (ls : List Nd) s => (nameP E.L E.e s).bind fun u s => (fun (t u : Nd) (ls : List Nd) (s : PS) => (fun (t u : Nd) (ls : List Nd) (s : PS) => (fun (t u : Nd) (ls : List Nd) (n : Nd) s => (fun (t _ : Nd) (ls : List Nd) s => clsK1 E f t (ndL ls) s) t u (ls ++ [n]) s) t u ls (.mk 31 u.text 0 []) s) t u ls ⟨s.i,s.dep,s.many + 1⟩) t u ls s) t u ls (stepP s) else (fun (t _ : Nd) (ls : List Nd) s => clsK1 E f t (ndL ls) s) t u ls s) HST.out (fun t u s => by
  (try dsimp only)
  split
  ·rw [bind_assoc];rfl
  ·rfl))
 have hcb:=(HT.out.blk HBB.out NBB.out).f1.1
 go_wp2_with fail
 (try clear hcb)
 refine (pt_takes (A:=(fun (t _ : Nd) (ls : List Nd) s => (nameP E.L E.e s).bind fun u s => (fun (t u : Nd) (ls : List Nd) (s : PS) => (fun (t u : Nd) (ls : List Nd) (s : PS) => (fun (t u : Nd) (ls : List Nd) (n : Nd) s => (fun (t _ : Nd) (ls : List Nd) s => clsK1 E f t (ndL ls) s) t u (ls ++ [n]) s) t u ls (.mk 31 u.text 0 []) s) t u ls ⟨s.i,s.dep,s.many + 1⟩) t u ls s)) (B:=(fun (t _ : Nd) (ls : List Nd) s => clsK1 E f t (ndL ls) s)) (sr_ne HQ.out) ⟨#[58]⟩ HST.out).mono ?_
 rintro e w30 ⟨b9,rfl,ht9,hy9,hn9⟩
 replace HX:=bT HX ht9 NE
 replace HO:=Lib.hid (HO.out.turned ht9 (row_ne HO.out HQ.out))
 replace HZ:=zT HZ ht9
 replace HT:=tT HT ht9
 have HY:=Lib.hid hy9
 have HN9:=Lib.hid hn9
 clear ht9 HST hy9 hn9
 go_upto_if 9 with fail
 go_cut [4] from 8 (fun l wx => ∃ A n c xs uv,l = .slice A n c ∧ Turned w wx (fun b => b = E.Q) ∧ w.heap.size < wx.heap.size ∧ Blk wx w.heap.size 24 #[.int .i64 0,.string ⟨#[]⟩,.int .i64 0,.slice none 0 0] ∧ OwnN wx (w.heap.size + 1) (.slice A n c) xs ∧ xs.length ≤ 1 ∧ PT E rr wx (fun (t _ : Nd) (ls : List Nd) s => clsK1 E f t (ndL ls) s) t uv xs (SR w (.slice A n c)) 0)
 case first =>
  cases b9
  ·have HST:=Lib.hid (HN9.out rfl)
   clear HY HN9
   go_wp2_with fail
   go_meet
   exact ⟨_,_,_,_,_,rfl,HT.out,HZ.out,HX.out,HO.out,by simp,HST.out.low (Nat.zero_le _)⟩
  ·have HST:=Lib.hid (HY.out rfl)
   clear HY HN9
   have hcb:=(HT.out.blk HBB.out NBB.out).f1.1
   go_wp2_with fail
   (try clear hcb)
   replace HX : Hid (Blk w30.drew w.heap.size 24 #[.int .i64 0,.string ⟨#[]⟩,.int .i64 0,.slice none 0 0]):=HX.out.drewN 1
   replace HO : Hid (OwnN w30.drew (w.heap.size + 1) (.slice none 0 0) ([] : List NV)):=HO.out.turned (Turned.of_below (fun b => b = E.Q) (belowN w30.heap.size w30 1)) (row_ne HO.out HQ.out)
   replace HZ : Hid (w.heap.size < w30.drew.heap.size):=HZ.out
   replace HT : Hid (Turned w w30.drew (fun b => b = E.Q)):=HT.out.drewN 1
   have HST2 : Hid (PT E rr w30.drew (fun (t _ : Nd) (ls : List Nd) s => (nameP E.L E.e s).bind fun u s => (fun (t u : Nd) (ls : List Nd) (s : PS) => (fun (t u : Nd) (ls : List Nd) (s : PS) => (fun (t u : Nd) (ls : List Nd) (n : Nd) s => (fun (t _ : Nd) (ls : List Nd) s => clsK1 E f t (ndL ls) s) t u (ls ++ [n]) s) t u ls (.mk 31 u.text 0 []) s) t u ls ⟨s.i,s.dep,s.many + 1⟩) t u ls s) _ _ _ _ _):=Lib.hid (HST.out.below (belowN w30.heap.size w30 1))
   have HNAME:=Lib.hid ((pt_name2 (K:=(fun (t u : Nd) (ls : List Nd) (s : PS) => (fun (t u : Nd) (ls : List Nd) (s : PS) => (fun (t u : Nd) (ls : List Nd) (n : Nd) s => (fun (t _ : Nd) (ls : List Nd) s => clsK1 E f t (ndL ls) s) t u (ls ++ [n]) s) t u ls (.mk 31 u.text 0 []) s) t u ls ⟨s.i,s.dep,s.many + 1⟩)) (sr_ne HQ.out) HST2.out).mono (fun _ _ h => way_open h))
   clear HST HST2
   have hcb:=(HT.out.blk HBB.out NBB.out).f1.1
   have HBD : Hid (([] : List NV).length ≤ 1000000):=by show _ ≤ _;simp
   go_region_law (first
     | (go_simp;go_at_call 90;with_reducible refine HNAME.out.mono ?_;rintro e w9 ⟨ht9,⟨v9,rfl,u9,rfl,hst9⟩ | ⟨c9,p9,hr9,hc9,rfl⟩⟩;rotate_left;exact throw_out rfl (HUP.out _ _ (throw_end (HT.out.then ht9) hr9 hc9));have HF:=Lib.hid (And.intro ht9 hst9);have hcb9:=((HT.out.then ht9).blk HBB.out NBB.out).f1.1;have HNODE:=Lib.hid (pt_node (K:=(fun (t u : Nd) (ls : List Nd) (s : PS) => (fun (t u : Nd) (ls : List Nd) (n : Nd) s => (fun (t _ : Nd) (ls : List Nd) s => clsK1 E f t (ndL ls) s) t u (ls ++ [n]) s) t u ls (.mk 31 u.text 0 []) s)) (sr_ne HQ.out) 31 u9 none 0 0 hst9);clear ht9 hst9)
     | (go_simp;go_at_call 66;with_reducible refine HNODE.out.mono ?_;rintro e w10 ⟨rfl,ht10,hst10⟩;have HTt:=Lib.hid (HF.out.1.then ht10);have HXn:=Lib.hid ((HTt.out.blk HX.out NE.out).alloc (.cells #[.int .i64 31,.string u9,.int .i64 0,.slice none 0 0] 24));have HOn:=Lib.hid ((HO.out.turned HTt.out (row_ne HO.out HQ.out)).alloc (.cells #[.int .i64 31,.string u9,.int .i64 0,.slice none 0 0] 24));have HTn:=Lib.hid ((HT.out.then HTt.out).alloc (.cells #[.int .i64 31,.string u9,.int .i64 0,.slice none 0 0] 24));have HZn:=Lib.hid (size_up (Nat.lt_of_lt_of_le HZ.out HTt.out.size) (.cells #[.int .i64 31,.string u9,.int .i64 0,.slice none 0 0] 24));have HSTn:=Lib.hid (PT1.alloc (PT.leaf (K:=fun (t u : Nd) (ls : List Nd) (n : Nd) s => (fun (t _ : Nd) (ls : List Nd) s => clsK1 E f t (ndL ls) s) t u (ls ++ [n]) s) (kd:=31) (nm:=0) (tx:=u9) (fun _ u => u.text) (fun _ _ _ h => h.symm) 0 hst10) (.cells #[.int .i64 31,.string u9,.int .i64 0,.slice none 0 0] 24));have LIEn:=Lib.hid (lie_new w10 [(⟨31,u9,0,none,0,0⟩ : NV)] #[.int .i64 31,.string u9,.int .i64 0,.slice none 0 0] 24 rfl);have hone:=one_le (⟨31,u9,0,none,0,0⟩ : NV);clear ht10 hst10)
     | (refine step_joinNd rfl _ _ rfl (w.heap.size + 1) _ _ rfl HOn.out (some ⟨w10.heap.size,0,none⟩) [(⟨31,u9,0,none,0,0⟩ : NV)] 1 rfl LIEn.out HBD.out hone HZn.out ?_;intro A40 n40 c40 w40 hown hgr hpl;have HOWN:=Lib.hid hown;have HGR:=Lib.hid hgr;have HPL:=Lib.hid hpl;clear hown hgr hpl))
   all_goals
    clear hcb hcb9 hone HNODE HNAME HBD
    replace HX:=Lib.hid (HXn.out.grown HGR.out (row_nw HOn.out))
    replace HZ:=Lib.hid (Nat.lt_of_lt_of_le (Nat.lt_of_succ_le HZn.out) HGR.out.size)
    replace HT:=Lib.hid (HTn.out.grown HGR.out (fun k e => .inr (row_ge HOn.out k e)))
    have HST:=Lib.hid (PT1.push (K:=(fun (t _ : Nd) (ls : List Nd) s => clsK1 E f t (ndL ls) s)) HSTn.out HQ.out HOn.out HGR.out HPL.out)
    replace HO:=HOWN
    clear LIEn HGR HPL HOWN HXn HOn HTn HZn HSTn HTt HF
    go_simp
    go_wp2_with fail
    go_meet
    exact ⟨_,_,_,_,_,rfl,HT.out,HZ.out,HX.out,HO.out,by simp,HST.out.low (Nat.zero_le _)⟩
 case rest =>
  clear HT HZ HX HO HY HN9
  obtain ⟨A_c,n_c,c_c,xs_c,uv_c,rfl,ht,hz,hx,ho,hl1,hst⟩:=hcut
  have HT:=Lib.hid ht
  have HZ:=Lib.hid hz
  have HX:=Lib.hid hx
  have HO:=Lib.hid ho
  have HL1:=Lib.hid hl1
  have HST:=Lib.hid hst
  clear ht hz hx ho hl1 hst
  replace HST : Hid (PT E rr _ (fun (t u : Nd) (ls : List Nd) s => (wantP E.L E.e ⟨#[123]⟩ s).bind fun _ s => (fun (t _ : Nd) (ls : List Nd) s => (run E.L E.e f (.slotsL ls) s).bind (clsK2 E f t)) t u ls s) _ _ _ _ _):=HST.out
  have hcb:=(HT.out.blk HBB.out NBB.out).f1.1
  go_wp2_with fail
  (try clear hcb)
  have HB_k21:=Lib.hid (Blk.new wc 9 #[.string ⟨#[123]⟩])
  have NB_k21:=nE HQ HZ
  have HG_k21 : Hid (w.heap.size < (World.heap wc).size):=HZ.out
  replace HX:=bA HX (.cells #[.string ⟨#[123]⟩] 9)
  replace HO:=oA HO (.cells #[.string ⟨#[123]⟩] 9)
  replace HST:=Lib.hid (HST.out.alloc (.cells #[.string ⟨#[123]⟩] 9))
  replace HT:=tA HT (.cells #[.string ⟨#[123]⟩] 9)
  replace HZ:=zA HZ (.cells #[.string ⟨#[123]⟩] 9)
  have hcb:=(HT.out.blk HBB.out NBB.out).f1.1
  go_wp2_with fail
  (try clear hcb)
  (try rw [← (show (World.alloc wc (.cells #[.string ⟨#[123]⟩] 9)).heap.size = _ from World.size_alloc _ _)])
  generalize (World.alloc wc (.cells #[.string ⟨#[123]⟩] 9)) = w22 at *
  generalize (World.heap wc).size = b_k21 at *
  refine (pt_want (sr_ne HQ.out) (g:=b_k21) _ HB_k21.out.f1.1 NB_k21.out HB_k21.out.lt HST.out).mono ?_
  rintro e w23 ⟨ht9,⟨v9,rfl,rfl,hst9⟩ | ⟨c9,p9,hr9,hc9,rfl⟩⟩
  rotate_left
  ·exact ⟨rfl,HUP.out _ _ (throw_end (HT.out.then ht9) hr9 hc9)⟩
  clear HB_k21 NB_k21 HG_k21
  replace HX:=bT HX ht9 NE
  replace HO:=Lib.hid (HO.out.turned ht9 (row_ne HO.out HQ.out))
  replace HZ:=zT HZ ht9
  replace HT:=tT HT ht9
  replace HST:=Lib.hid hst9
  clear ht9 hst9
  have hcb:=(HT.out.blk HBB.out NBB.out).f1.1
  go_wp2_with fail
  (try clear hcb)
  go_loopg [4] E.L.length (fun gk v wr => KInv w E rr .slotsL (clsK2 E f) f 1 gk v t wr)
  case atStart => exact ⟨HT.out,HZ.out,HX.out,_,_,_,_,_,f,0,rfl,HO.out,HL1.out,Nat.zero_le _,by omega,Nat.le_refl _,HST.out.low (Nat.zero_le _)⟩
  case round =>
   clear HT HZ HX HO HST HL1
   obtain ⟨ht,hz,hx,A_r,n_r,c_r,xs_r,uv,g,i,rfl,ho,hl,hi,hgk,hgf,hst⟩:=hrel
   obtain ⟨g2,hg2,hst⟩:=pslots_open HO0.out hst
   have HT:=Lib.hid ht
   have HZ:=Lib.hid hz
   have HX:=Lib.hid hx
   have HO:=Lib.hid ho
   have HL:=Lib.hid hl
   have HI:=Lib.hid hi
   have HST:=Lib.hid hst
   have HGK:=Lib.hid hgk
   clear ht hz hx ho hl hi hst hgk
   have hcb:=(HT.out.blk HBB.out NBB.out).f1.1
   go_wp2_with fail
   (try clear hcb)
   refine (pt_takes (A:=(fun (t _ : Nd) (ls : List Nd) s => (nameP E.L E.e s).bind fun u s => (fun (t u : Nd) (ls : List Nd) (s : PS) => (fun (t u : Nd) (ls : List Nd) (s : PS) => (fun (t _ : Nd) (ls : List Nd) (n : Nd) s => (wantP E.L E.e ⟨#[59]⟩ s).bind fun _ s => (run E.L E.e g2 (.slotsL (ls ++ [n])) s).bind (clsK2 E f t)) t u ls (.mk 3 u.text 0 []) s) t u ls ⟨s.i,s.dep,s.many + 1⟩) t u ls s)) (B:=(fun (t _ : Nd) (ls : List Nd) s => clsK2 E f t (ndL ls) s)) (sr_ne HQ.out) ⟨#[115,108,111,116]⟩ HST.out).mono ?_
   rintro e w24 ⟨b9,rfl,ht9,hy9,hn9⟩
   replace HX:=bT HX ht9 NE
   replace HO:=Lib.hid (HO.out.turned ht9 (row_ne HO.out HQ.out))
   replace HZ:=zT HZ ht9
   replace HT:=tT HT ht9
   clear ht9 HST
   cases b9
   ·have HST:=Lib.hid (hn9 rfl)
    clear hy9 hn9
    replace HST : Hid (PT E rr _ (fun (t _ : Nd) (ls : List Nd) s => (run E.L E.e f (.methsL ls) s).bind (clsK3 E t)) _ _ _ _ _):=HST.out
    have HL1 : Hid (xs_r.length ≤ 5000):=by have h1:=HL.out;have h2:=HI.out;show _ ≤ _;omega
    have hcb:=(HT.out.blk HBB.out NBB.out).f1.1
    go_wp2_with fail
    (try clear hcb)
    go_loopg [4,5] E.L.length (fun gk v _ wr => KInv w E rr .methsL (clsK3 E) f 5000 gk v t wr)
    case atStart => exact ⟨HT.out,HZ.out,HX.out,_,_,_,_,_,f,0,rfl,HO.out,HL1.out,Nat.zero_le _,by omega,Nat.le_refl _,HST.out.low (Nat.zero_le _)⟩
    case round =>
     clear HT HZ HX HO HST HL1 HL HI HGK
     obtain ⟨ht,hz,hx,B_r,m_r,d_r,ys_r,uv2,g1,j,rfl,ho,hl,hi,hgk,hgf1,hst⟩:=hrel
     obtain ⟨g3,hst⟩:=pmeths_open HO0.out hst
     have HT:=Lib.hid ht
     have HZ:=Lib.hid hz
     have HX:=Lib.hid hx
     have HO:=Lib.hid ho
     have HL:=Lib.hid hl
     have HI:=Lib.hid hi
     have HGK:=Lib.hid hgk
     clear ht hz hx ho hl hi hgk
     rcases hst with ⟨hg3,hst⟩ | ⟨X,hX,hst⟩
     ·have HST:=Lib.hid hst
      clear hst
      have hcb:=(HT.out.blk HBB.out NBB.out).f1.1
      go_wp2_with fail
      (try clear hcb)
      refine (pt_takes (A:=(fun (t _ : Nd) (ls : List Nd) s => (nameP E.L E.e s).bind fun u s => (fun (t u : Nd) (ls : List Nd) (s : PS) => (fun (t u : Nd) (ls : List Nd) (s : PS) => (methX E g3 u s).bind fun k s => (run E.L E.e (g3 + 1) (.methsL (ls ++ [k])) s).bind (clsK3 E t)) t u ls ⟨s.i,s.dep,s.many + 1⟩) t u ls s)) (B:=(fun (t _ : Nd) (ls : List Nd) s => clsK3 E t (ndL ls) s)) (sr_ne HQ.out) ⟨#[116,111]⟩ HST.out).mono ?_
      rintro e w25 ⟨b9,rfl,ht9,hy9,hn9⟩
      replace HX:=bT HX ht9 NE
      replace HO:=Lib.hid (HO.out.turned ht9 (row_ne HO.out HQ.out))
      replace HZ:=zT HZ ht9
      replace HT:=tT HT ht9
      clear ht9 HST
      cases b9
      ·have HST:=Lib.hid (hn9 rfl)
       clear hy9 hn9
       replace HST : Hid (PT E rr _ (fun (t u : Nd) (ls : List Nd) s => (wantP E.L E.e ⟨#[125]⟩ s).bind fun _ s => (fun (t _ : Nd) (ls : List Nd) s => Res.ok (.mk 2 t.text 0 ls) ⟨s.i,s.dep,s.many + 1⟩) t u ls s) _ _ _ _ _):=HST.out
       have hcb:=(HT.out.blk HBB.out NBB.out).f1.1
       go_wp2_with fail
       (try clear hcb)
       have HB_k26:=Lib.hid (Blk.new w25 9 #[.string ⟨#[125]⟩])
       have NB_k26:=nE HQ HZ
       have HG_k26 : Hid (w.heap.size < (World.heap w25).size):=HZ.out
       replace HX:=bA HX (.cells #[.string ⟨#[125]⟩] 9)
       replace HO:=oA HO (.cells #[.string ⟨#[125]⟩] 9)
       replace HST:=Lib.hid (HST.out.alloc (.cells #[.string ⟨#[125]⟩] 9))
       replace HT:=tA HT (.cells #[.string ⟨#[125]⟩] 9)
       replace HZ:=zA HZ (.cells #[.string ⟨#[125]⟩] 9)
       have hcb:=(HT.out.blk HBB.out NBB.out).f1.1
       go_wp2_with fail
       (try clear hcb)
       (try rw [← (show (World.alloc w25 (.cells #[.string ⟨#[125]⟩] 9)).heap.size = _ from World.size_alloc _ _)])
       generalize (World.alloc w25 (.cells #[.string ⟨#[125]⟩] 9)) = w27 at *
       generalize (World.heap w25).size = b_k26 at *
       refine (pt_want (sr_ne HQ.out) (g:=b_k26) _ HB_k26.out.f1.1 NB_k26.out HB_k26.out.lt HST.out).mono ?_
       rintro e w28 ⟨ht9,⟨v9,rfl,rfl,hst9⟩ | ⟨c9,p9,hr9,hc9,rfl⟩⟩
       rotate_left
       ·exact ⟨rfl,HUP.out _ _ (throw_end (HT.out.then ht9) hr9 hc9)⟩
       clear HB_k26 NB_k26 HG_k26
       replace HX:=bT HX ht9 NE
       replace HO:=Lib.hid (HO.out.turned ht9 (row_ne HO.out HQ.out))
       replace HZ:=zT HZ ht9
       replace HT:=tT HT ht9
       replace HST:=Lib.hid hst9
       clear ht9 hst9
       have hcb:=(HT.out.blk HBB.out NBB.out).f1.1
       go_wp2_with fail
       (try clear hcb)
       refine (pt_node (K:=(fun (t u : Nd) (ls : List Nd) s => (fun (_ _ : Nd) (_ : List Nd) n s => Res.ok n s) t u [] (.mk 2 ((fun (t _ : Nd) => t.text) t u) 0 ls) s)) (sr_ne HQ.out) 2 _ _ _ _ HST.out).mono ?_
       rintro e w29 ⟨rfl,ht9,hst9⟩
       replace HX:=bT HX ht9 NE
       replace HO:=Lib.hid (HO.out.turned ht9 (row_ne HO.out HQ.out))
       replace HZ:=zT HZ ht9
       replace HT:=tT HT ht9
       replace HST:=Lib.hid hst9
       clear ht9 hst9
       replace HST:=Lib.hid (PT.made (K:=(fun (_ _ : Nd) (_ : List Nd) n s => Res.ok n s)) (S':=SR w (.slice none 0 0)) (fun (t _ : Nd) => t.text) (fun _ _ h _ => h.symm) HO.out (fun b h => ⟨h.1,fun e => by cases e⟩) (fun k hk => ⟨row_gt HO.out k hk,fun e => by cases e⟩) HST.out)
       clear HO
       have HO:=Lib.hid (OwnN.nil w29 (w.heap.size + 1))
       obtain ⟨u0,u1,u2,u3,g0,g1,g2,g3,gl⟩:=HX.out.f4
       have hcb:=(HT.out.blk HBB.out NBB.out).f1.1
       go_wp2_with fail
       (try clear hcb)
       clear u0 u1 u2 u3 g0 g1 g2 g3 gl
       have HEND:=Lib.hid (pt_end (x:=(⟨2,t,0,B_r,m_r,d_r⟩ : NV)) HQ.out HT.out HX.out (fun b h => h.1) HST.out rfl)
       refine open_post (fun W => Blk W w.heap.size 24 #[.int .i64 (⟨2,t,0,B_r,m_r,d_r⟩ : NV).kind,.string (⟨2,t,0,B_r,m_r,d_r⟩ : NV).text,.int .i64 (⟨2,t,0,B_r,m_r,d_r⟩ : NV).num,.slice (⟨2,t,0,B_r,m_r,d_r⟩ : NV).a (⟨2,t,0,B_r,m_r,d_r⟩ : NV).len (⟨2,t,0,B_r,m_r,d_r⟩ : NV).cap] ∧ PEnd E rr w (.returned (nvA (⟨2,t,0,B_r,m_r,d_r⟩ : NV))) W) HEND.out ?_
       rintro W ⟨hb,hE⟩
       obtain ⟨v0,v1,v2,v3,-⟩:=hb.f4
       exact bodyPost_ret (v:=nvA (⟨2,t,0,B_r,m_r,d_r⟩ : NV)) (by simp [results,Tryz.results62,go_sem,nvA,v0,v1,v2,v3]) rfl (HUP.out _ _ hE)
      ·have HST:=Lib.hid (hy9 rfl)
       clear hy9 hn9
       have hcb:=(HT.out.blk HBB.out NBB.out).f1.1
       go_upto_region 10 with fail
       go_cut [5] from 32 to 56 (fun m wx => M1 w E rr (fun (t u : Nd) (ls : List Nd) (s : PS) => (methX E g3 u s).bind fun k s => (run E.L E.e (g3 + 1) (.methsL (ls ++ [k])) s).bind (clsK3 E t)) t (.slice B_r m_r d_r) ys_r (j + 1 + 1) m wx)
       case first =>
        clear hcb
        replace HX : Hid (Blk w25.drew w.heap.size 24 #[.int .i64 0,.string ⟨#[]⟩,.int .i64 0,.slice none 0 0]):=HX.out.drewN 1
        replace HO : Hid (OwnN w25.drew (w.heap.size + 1) (.slice B_r m_r d_r) ys_r):=HO.out.turned (Turned.of_below (fun b => b = E.Q) (belowN w25.heap.size w25 1)) (row_ne HO.out HQ.out)
        replace HZ : Hid (w.heap.size < w25.drew.heap.size):=HZ.out
        replace HT : Hid (Turned w w25.drew (fun b => b = E.Q)):=HT.out.drewN 1
        have HST2 : Hid (PT E rr w25.drew (fun (t _ : Nd) (ls : List Nd) s => (nameP E.L E.e s).bind fun u s => (fun (t u : Nd) (ls : List Nd) (s : PS) => (fun (t u : Nd) (ls : List Nd) (s : PS) => (methX E g3 u s).bind fun k s => (run E.L E.e (g3 + 1) (.methsL (ls ++ [k])) s).bind (clsK3 E t)) t u ls ⟨s.i,s.dep,s.many + 1⟩) t u ls s) _ _ _ _ _):=Lib.hid (HST.out.below (belowN w25.heap.size w25 1))
        have HNAME:=Lib.hid ((pt_name2 (K:=(fun (t u : Nd) (ls : List Nd) (s : PS) => (fun (t u : Nd) (ls : List Nd) (s : PS) => (methX E g3 u s).bind fun k s => (run E.L E.e (g3 + 1) (.methsL (ls ++ [k])) s).bind (clsK3 E t)) t u ls ⟨s.i,s.dep,s.many + 1⟩)) (sr_ne HQ.out) HST2.out).mono (fun _ _ h => way_open h))
        have HZ0 : Hid (w.heap.size < w25.heap.size):=HZ.out
        have HXC : Hid (Blk (w25.alloc (.cells #[.int .i64 0,.string ⟨#[]⟩,.int .i64 0,.slice none 0 0] 24)).drew w.heap.size 24 #[.int .i64 0,.string ⟨#[]⟩,.int .i64 0,.slice none 0 0]):=HX.out.alloc (.cells #[.int .i64 0,.string ⟨#[]⟩,.int .i64 0,.slice none 0 0] 24)
        have HOC : Hid (OwnN (w25.alloc (.cells #[.int .i64 0,.string ⟨#[]⟩,.int .i64 0,.slice none 0 0] 24)).drew (w.heap.size + 1) (.slice B_r m_r d_r) ys_r):=HO.out.alloc (.cells #[.int .i64 0,.string ⟨#[]⟩,.int .i64 0,.slice none 0 0] 24)
        have HTC : Hid (Turned w (w25.alloc (.cells #[.int .i64 0,.string ⟨#[]⟩,.int .i64 0,.slice none 0 0] 24)).drew (fun b => b = E.Q)):=HT.out.alloc (.cells #[.int .i64 0,.string ⟨#[]⟩,.int .i64 0,.slice none 0 0] 24)
        have HBC : Hid (Blk (w25.alloc (.cells #[.int .i64 0,.string ⟨#[]⟩,.int .i64 0,.slice none 0 0] 24)).drew w25.heap.size 24 #[.int .i64 0,.string ⟨#[]⟩,.int .i64 0,.slice none 0 0]):=(Blk.new w25 24 #[.int .i64 0,.string ⟨#[]⟩,.int .i64 0,.slice none 0 0]).drewN 1
        have HZC : Hid (w.heap.size < (w25.alloc (.cells #[.int .i64 0,.string ⟨#[]⟩,.int .i64 0,.slice none 0 0] 24)).drew.heap.size):=Nat.lt_trans HZ.out HBC.out.lt
        have HBO : Hid ((Value.slice B_r m_r d_r).ownBlock ≠ some w25.heap.size):=own_not HO.out
        have HSTC : Hid (PT E rr (w25.alloc (.cells #[.int .i64 0,.string ⟨#[]⟩,.int .i64 0,.slice none 0 0] 24)).drew (fun (t _ : Nd) (ls : List Nd) s => (nameP E.L E.e s).bind fun u s => (fun (t u : Nd) (ls : List Nd) (s : PS) => (fun (t u : Nd) (ls : List Nd) (s : PS) => (methX E g3 u s).bind fun k s => (run E.L E.e (g3 + 1) (.methsL (ls ++ [k])) s).bind (clsK3 E t)) t u ls ⟨s.i,s.dep,s.many + 1⟩) t u ls s) _ _ _ (fun b => SR w (.slice B_r m_r d_r) b ∧ b ≠ w25.heap.size) _):=Lib.hid ((HST2.out.weak (S':=fun b => SR w (.slice B_r m_r d_r) b ∧ b ≠ w25.heap.size) (fun b hb hs => ⟨hs,Nat.ne_of_lt hb⟩)).alloc (.cells #[.int .i64 0,.string ⟨#[]⟩,.int .i64 0,.slice none 0 0] 24))
        have HNAMEC:=Lib.hid ((pt_name2 (K:=(fun (t u : Nd) (ls : List Nd) (s : PS) => (fun (t u : Nd) (ls : List Nd) (s : PS) => (methX E g3 u s).bind fun k s => (run E.L E.e (g3 + 1) (.methsL (ls ++ [k])) s).bind (clsK3 E t)) t u ls ⟨s.i,s.dep,s.many + 1⟩)) (sm_ne HQ.out) HSTC.out).mono (fun _ _ h => way_open h))
        have NBC : Hid (¬ w25.heap.size = E.Q):=by have h1:=HQ.out;have h2 : w.heap.size < w25.heap.size:=HZ.out;show ¬ _;omega
        clear HST HST2 HSTC
        have hcb:=(HT.out.blk HBB.out NBB.out).f1.1
        have hcbC:=(HTC.out.blk HBB.out NBB.out).f1.1
        go_region_law (first
          | (go_simp;go_at_call 90;with_reducible refine HNAME.out.mono ?_;rintro e w9 ⟨ht9,⟨v9,rfl,u9,rfl,hst9⟩ | ⟨c9,p9,hr9,hc9,rfl⟩⟩;rotate_left;exact throw_out rfl (HUP.out _ _ (throw_end (HT.out.then ht9) hr9 hc9));have HF:=Lib.hid (And.intro ht9 hst9);have hcb9:=((HT.out.then ht9).blk HBB.out NBB.out).f1.1;have hcb9b:=(((HT.out.then ht9).alloc (.cells #[.int .i64 0,.string ⟨#[]⟩,.int .i64 0,.slice none 0 0] 24)).blk HBB.out NBB.out).f1.1;have HO9:=Lib.hid (HO.out.turned ht9 (row_ne HO.out HQ.out));have HNODE:=Lib.hid (pt_node (K:=(fun (t u : Nd) (ls : List Nd) (s : PS) => (methX E g3 u s).bind fun k s => (run E.L E.e (g3 + 1) (.methsL (ls ++ [k])) s).bind (clsK3 E t))) (sr_ne HQ.out) 4 u9 none 0 0 hst9);have HNODEB:=Lib.hid (pt_node (K:=(fun (t u : Nd) (ls : List Nd) (s : PS) => (methX E g3 u s).bind fun k s => (run E.L E.e (g3 + 1) (.methsL (ls ++ [k])) s).bind (clsK3 E t))) (sm_ne (bm:=w9.heap.size) HQ.out) 4 u9 none 0 0 ((PT.weak hst9 (S':=fun b => SR w (.slice B_r m_r d_r) b ∧ b ≠ w9.heap.size) (fun b hb hs => ⟨hs,Nat.ne_of_lt hb⟩)).alloc (.cells #[.int .i64 0,.string ⟨#[]⟩,.int .i64 0,.slice none 0 0] 24)));clear ht9 hst9)
          | (go_simp;go_at_call 90;with_reducible refine HNAMEC.out.mono ?_;rintro e w9 ⟨ht9,⟨v9,rfl,u9,rfl,hst9⟩ | ⟨c9,p9,hr9,hc9,rfl⟩⟩;rotate_left;exact throw_out rfl (HUP.out _ _ (throw_end (HTC.out.then ht9) hr9 hc9));have HF:=Lib.hid (And.intro ht9 hst9);have hcb9:=((HTC.out.then ht9).blk HBB.out NBB.out).f1.1;have HNODEC:=Lib.hid (pt_node (K:=(fun (t u : Nd) (ls : List Nd) (s : PS) => (methX E g3 u s).bind fun k s => (run E.L E.e (g3 + 1) (.methsL (ls ++ [k])) s).bind (clsK3 E t))) (sm_ne HQ.out) 4 u9 none 0 0 hst9);clear ht9 hst9)
          | (go_simp;go_at_call 66;with_reducible refine HNODE.out.mono ?_;rintro e w10 ⟨rfl,ht10,hst10⟩;have HTt:=Lib.hid (HF.out.1.then ht10);have HM1:=Lib.hid (m1_make (HT.out.then HTt.out) (Nat.lt_of_lt_of_le HZ.out HTt.out.size) (HTt.out.blk HX.out NE.out) (HO.out.turned HTt.out (row_ne HO.out HQ.out)) hst10);clear ht10 hst10)
          | (go_simp;go_at_call 66;with_reducible refine HNODEB.out.mono ?_;rintro e w10 ⟨rfl,ht10,hst10⟩;have HMB:=Lib.hid (m1_mid HQ.out HZ.out HT.out HF.out.1 HX.out HO.out ht10 hst10);have HM1:=Lib.hid HMB.out.1;obtain ⟨m0,m1,m2,m3,k0,k1,k2,k3,kl⟩:=HMB.out.2.f4;clear ht10 hst10)
          | (go_simp;go_at_call 66;with_reducible refine HNODEC.out.mono ?_;rintro e w10 ⟨rfl,ht10,hst10⟩;have HTt:=Lib.hid (HF.out.1.then ht10);have HB9:=Lib.hid (HTt.out.blk HBC.out NBC.out);have HM1:=Lib.hid (m1_store HQ.out (HTC.out.then HTt.out) (Nat.lt_of_lt_of_le HZC.out HTt.out.size) (HTt.out.blk HXC.out NE.out) (HOC.out.turned HTt.out (row_ne HOC.out HQ.out)) HB9.out HZ0.out HBO.out hst10);obtain ⟨m0,m1,m2,m3,k0,k1,k2,k3,kl⟩:=HB9.out.f4;clear ht10 hst10))
        all_goals
         (try clear hcb)
         (try clear hcbC)
         (try clear hcb9)
         (try clear hcb9b)
         (try clear m0 m1 m2 m3 k0 k1 k2 k3 kl)
         go_simp
         go_wp2_with fail
         go_meet
         first | exact HM1.out | exact HM1.out _ rfl
       case rest =>
        clear HT HZ HX HO HST
        (try clear hcb)
        obtain ⟨bm,um,hmv,ht,hz,hx,ho,hbm,hbml,hbo,hst⟩:=hcut
        subst hmv
        have HT:=Lib.hid ht
        have HZ:=Lib.hid hz
        have HX:=Lib.hid hx
        have HO:=Lib.hid ho
        have HBM:=Lib.hid hbm
        have HBL:=Lib.hid hbml
        have HBO:=Lib.hid hbo
        have HST:=Lib.hid hst
        clear ht hz hx ho hbm hbml hbo hst
        obtain ⟨t9,n9,ls9,s9,k1,k2,k3,k4,k5,k6⟩:=HST.out
        have hK : rr = (listM E g3 s9).bind fun a s => (run E.L E.e g3 .block s).bind fun b s => (run E.L E.e (g3 + 1) (.methsL (ls9 ++ [.mk 4 n9.text (a.kids.length : Nat) (a.kids ++ [b])])) s).bind (clsK3 E t9):=k1.trans (by simp only [methX,bind_assoc,ok_bind])
        have HK:=Lib.hid hK
        have HALL:=Lib.hid (k5.kept (Nat.le_refl _) (fun _ _ _ => rfl) (S':=fun b => SR w (.slice B_r m_r d_r) b ∧ b ≠ bm ∧ b < wc.heap.size) (fun b hb h => ⟨h.1,h.2,hb⟩))
        have HBW:=Lib.hid HBM.out.lt
        have HVW:=Lib.hid (fun k hk => (HO.out.lt k hk).2)
        have HLO:=Lib.hid k6
        have HT3:=Lib.hid k3
        have HN4:=Lib.hid k4
        have hout : listM E g3 s9 ≠ .out:=fun hx => HO0.out (hK.trans (bind_out hx))
        have HLIST:=Lib.hid (plist_M (HT.out.blk HBB.out NBB.out) NBB.out k2 hout)
        have NBM : Hid (¬ bm = E.Q):=by have h1:=HQ.out;have h2:=HBL.out;show ¬ _;omega
        clear k1 k2 k3 k4 k5 k6 hK hout HST
        have hmf : ∀ (fn : Fn) (first cap : Array Value) (w : World),(Instr.makeFunc fn first cap).run Tryz.prog w = .ok (.func fn first cap) w:=fun _ _ _ _ => rfl
        have hcb:=(HT.out.blk HBB.out NBB.out).f1.1
        go_wp2_with fail
        clear hcb hmf
        refine HLIST.out.mono ?_
        rintro e w40 ⟨ht9,⟨v9,rfl,a9,s2,A2,q2,c2,zs,hr,rfl,hs2,hown,hall,hfew⟩ | ⟨c9,p9,hr9,hc9,rfl⟩⟩
        rotate_left
        ·exact ⟨rfl,HUP.out _ _ (throw_end (HT.out.then ht9) (HK.out.trans (bind_no hr9)) hc9)⟩
        obtain ⟨rfl,hlie⟩:=hown.lie
        replace HK:=Lib.hid (HK.out.trans (bind_ok hr))
        replace HX:=bT HX ht9 NE
        replace HBM:=bT HBM ht9 NBM
        replace HO:=Lib.hid (HO.out.turned ht9 (row_ne HO.out HQ.out))
        replace HALL:=Lib.hid (HALL.out.turned ht9 (fun b hb => sr_ne HQ.out b hb.1))
        have HWC:=HZ
        replace HZ:=zT HZ ht9
        replace HT:=tT HT ht9
        have HOZ:=Lib.hid hown
        have HAZ:=Lib.hid hall
        have HFZ:=Lib.hid hfew.1
        have HWL:=Lib.hid hfew.2
        have HAT:=Lib.hid hs2
        have HMS : Hid (s9.i ≤ s2.i):=mo_listM E g3 s9 a9 s2 hr
        clear ht9 hr hs2 hown hall hfew hlie HLIST
        obtain ⟨m0,m1,m2,m3,k0,k1,k2,k3,kl⟩:=HBM.out.f4
        go_upto_region 13 with fail
        clear m0 m1 m2 m3 k0 k1 k2 k3 kl
        have HTW:=Lib.hid (m_two (k:=0) HQ.out HBL.out HBW.out HT.out HX.out HBM.out HO.out HBO.out HALL.out HOZ.out HAZ.out HAT.out rfl)
        generalize ((w40.setCell ⟨bm,3,none⟩ (.slice A2 zs.length c2)).setCell ⟨bm,2,none⟩ (.int .i64 (zs.length : Nat))) = w45 at *
        obtain ⟨h1,h2,h3,h4,h5,h6,h7,h8,h9⟩:=HTW.out
        replace HZ : Hid (w.heap.size < w45.heap.size):=by show _ < _;rw [h2];exact HZ.out
        replace HWL : Hid (wc.heap.size < w45.heap.size):=by show _ < _;rw [h2];exact HWL.out
        replace HT:=Lib.hid h1
        replace HX:=Lib.hid h3
        replace HBM:=Lib.hid h4
        replace HO:=Lib.hid h5
        replace HALL:=Lib.hid h6
        replace HOZ:=Lib.hid h7
        replace HAZ:=Lib.hid h8
        replace HAT:=Lib.hid h9
        clear h1 h2 h3 h4 h5 h6 h7 h8 h9 HTW
        have HW45 : Hid (wc.heap.size < w45.heap.size):=HWL.out
        have HBLK:=Lib.hid (m_block (ihB g3 (by omega)) (lo:=j + 1 + 1) (KK:=(fun (t : Nd) (ls : List Nd) (n : Nd) s => (run E.L E.e (g3 + 1) (.methsL (ls ++ [n])) s).bind (clsK3 E t))) HQ.out HBL.out HBW.out HVW.out HW45.out HT.out HX.out HBM.out HO.out HBO.out HALL.out HOZ.out HAZ.out HAT.out HK.out HO0.out HN4.out HT3.out (Nat.le_trans HLO.out HMS.out))
        have HBZ : Hid (zs.length ≤ 1000000):=by have h1:=HFZ.out;show _ ≤ _;omega
        go_cut [] from 32 to 56 (fun wx => M3 w E rr (fun (t : Nd) (ls : List Nd) (n : Nd) s => (run E.L E.e (g3 + 1) (.methsL (ls ++ [n])) s).bind (clsK3 E t)) t um (.slice B_r m_r d_r) ys_r bm zs.length (j + 1 + 1) wx)
        case first =>
         have hcb : World.cell? w45.drew ⟨B,0,none⟩ = _:=(HT.out.blk HBB.out NBB.out).f1.1
         obtain ⟨m0,m1,m2,m3,k0,k1,k2,k3,kl⟩:=(show Blk w45.drew bm _ _ from HBM.out).f4
         clear HT HX HBM HO HALL HOZ HAZ HAT HK HMS HLO HT3 HN4 HFZ HW45 HZ
         go_region_law (first
           | (go_simp;go_at_call 64;with_reducible refine HBLK.out.mono ?_;rintro e w60 (⟨xb,rfl,hm4⟩ | ⟨c9,p9,rfl,hq9⟩);rotate_left;exact throw_out rfl (HUP.out _ _ hq9);have HM4:=Lib.hid hm4;clear hm4;obtain ⟨p0,p1,p2,p3,r0,r1,r2,r3,rl⟩:=HM4.out.blk.f4;obtain ⟨z0,z1,z2,z3,y0,y1,y2,y3,yl⟩:=HM4.out.blka.f4)
           | (refine step_joinNd rfl _ _ rfl (wc.heap.size + 1) _ _ rfl HM4.out.own (some ⟨w60.heap.size,0,none⟩) [xb] 1 rfl HM4.out.lie HBZ.out (one_le xb) HM4.out.big ?_;intro A61 n61 c61 w61 hown hgr hpl;have HN:=Lib.hid (HM4.out.next A61 n61 c61 w61 hown hgr hpl);clear hown hgr hpl;obtain ⟨q0,q1,q2,q3,x0,x1,x2,x3,xl⟩:=HN.out.1.f4))
         all_goals
          go_simp
          go_wp2_with fail
          go_meet
          exact HN.out.2 _ rfl
        case rest =>
         clear HT HX HBM HO HALL HOZ HAZ HAT HK HMS HLO HT3 HN4 HFZ HW45 HZ HBLK HBW HVW HWL HBZ
         obtain ⟨V_m,n_m,c_m,ht,hz,hx,ho,hbm,hst⟩:=hcut
         have HT:=Lib.hid ht
         have HZ:=Lib.hid hz
         have HX:=Lib.hid hx
         have HO:=Lib.hid ho
         have HBM:=Lib.hid hbm
         have HST:=Lib.hid hst
         clear ht hz hx ho hbm hst
         generalize zs.length = kz at *
         obtain ⟨m0,m1,m2,m3,k0,k1,k2,k3,kl⟩:=HBM.out.f4
         have HZ0:=HZ
         obtain ⟨oz9,hz9⟩ : ∃ o : Obj,o = (.cells #[.int .i64 4,.string um,.int .i64 (kz : Int),.slice V_m n_m c_m] 24):=⟨_,rfl⟩
         replace HX:=bA HX oz9
         replace HO:=oA HO oz9
         replace HST:=Lib.hid (HST.out.alloc oz9)
         replace HT:=tA HT oz9
         replace HZ:=zA HZ oz9
         subst hz9
         have LIE : Hid (LieN (World.alloc wc (.cells #[.int .i64 4,.string um,.int .i64 (kz : Int),.slice V_m n_m c_m] 24)) (some ⟨(World.heap wc).size,0,none⟩) [(⟨4,um,(kz : Int),V_m,n_m,c_m⟩ : NV)]):=lie_new wc [(⟨4,um,(kz : Int),V_m,n_m,c_m⟩ : NV)] #[.int .i64 4,.string um,.int .i64 (kz : Int),.slice V_m n_m c_m] 24 rfl
         have BD1 : Hid ((ys_r).length ≤ 1000000):=by have h1:=HL.out;have h2:=HI.out;show _ ≤ _;omega
         have BD2 : Hid ([(⟨4,um,(kz : Int),V_m,n_m,c_m⟩ : NV)].length ≤ 1000000):=by show _ ≤ _;simp
         have hcb:=(HT.out.blk HBB.out NBB.out).f1.1
         go_wp2_with (at_builtin;refine wpList_joinNd rfl _ _ rfl (w.heap.size + 1) _ _ rfl HO.out (some ⟨(World.heap wc).size,0,none⟩) [(⟨4,um,(kz : Int),V_m,n_m,c_m⟩ : NV)] 1 rfl LIE.out BD1.out BD2.out HZ.out ?_;intro A30 n31 c32 w33 hown hgr hpl;have HOWN:=Lib.hid hown;have HGR:=Lib.hid hgr;have HPL:=Lib.hid hpl;clear hown hgr hpl)
         (try clear hcb)
         clear m0 m1 m2 m3 k0 k1 k2 k3 kl
         replace HX:=Lib.hid (HX.out.grown HGR.out (row_nw HO.out))
         replace HZ:=Lib.hid (Nat.lt_of_lt_of_le HZ.out HGR.out.size)
         replace HT:=Lib.hid (HT.out.grown HGR.out (fun k e => .inr (row_ge HO.out k e)))
         replace HST:=Lib.hid (PT1.push (K:=(fun (t _ : Nd) (ls : List Nd) s => (run E.L E.e (g3 + 1) (.methsL ls) s).bind (clsK3 E t))) HST.out HQ.out HO.out HGR.out HPL.out)
         replace HO:=HOWN
         clear LIE HGR HPL HOWN
         have hi2:=HST.out.le
         have hl9:=HL.out
         have hg9:=HGK.out
         have hcb:=(HT.out.blk HBB.out NBB.out).f1.1
         go_wp2_with fail
         (try clear hcb)
         go_roundg (gk - 1)
         case measure => omega
         case rel => exact ⟨HT.out,HZ.out,HX.out,_,_,_,_,_,g3 + 1,j + 1,rfl,HO.out,by simp;omega,by omega,by omega,by omega,HST.out.low (by omega)⟩
     ·have HST:=Lib.hid hst
      clear hst
      have hcb:=(HT.out.blk HBB.out NBB.out).f1.1
      go_wp2_with fail
      (try clear hcb)
      refine (pt_takes (A:=X) (B:=(fun (t _ : Nd) (ls : List Nd) s => clsK3 E t (ndL ls) s)) (sr_ne HQ.out) ⟨#[116,111]⟩ HST.out).mono ?_
      rintro e w34 ⟨b9,rfl,ht9,hy9,hn9⟩
      replace HX:=bT HX ht9 NE
      replace HO:=Lib.hid (HO.out.turned ht9 (row_ne HO.out HQ.out))
      replace HZ:=zT HZ ht9
      replace HT:=tT HT ht9
      clear ht9 HST
      cases b9
      ·have HST:=Lib.hid (hn9 rfl)
       clear hy9 hn9
       replace HST : Hid (PT E rr _ (fun (t u : Nd) (ls : List Nd) s => (wantP E.L E.e ⟨#[125]⟩ s).bind fun _ s => (fun (t _ : Nd) (ls : List Nd) s => Res.ok (.mk 2 t.text 0 ls) ⟨s.i,s.dep,s.many + 1⟩) t u ls s) _ _ _ _ _):=HST.out
       have hcb:=(HT.out.blk HBB.out NBB.out).f1.1
       go_wp2_with fail
       (try clear hcb)
       have HB_k35:=Lib.hid (Blk.new w34 9 #[.string ⟨#[125]⟩])
       have NB_k35:=nE HQ HZ
       have HG_k35 : Hid (w.heap.size < (World.heap w34).size):=HZ.out
       replace HX:=bA HX (.cells #[.string ⟨#[125]⟩] 9)
       replace HO:=oA HO (.cells #[.string ⟨#[125]⟩] 9)
       replace HST:=Lib.hid (HST.out.alloc (.cells #[.string ⟨#[125]⟩] 9))
       replace HT:=tA HT (.cells #[.string ⟨#[125]⟩] 9)
       replace HZ:=zA HZ (.cells #[.string ⟨#[125]⟩] 9)
       have hcb:=(HT.out.blk HBB.out NBB.out).f1.1
       go_wp2_with fail
       (try clear hcb)
       (try rw [← (show (World.alloc w34 (.cells #[.string ⟨#[125]⟩] 9)).heap.size = _ from World.size_alloc _ _)])
       generalize (World.alloc w34 (.cells #[.string ⟨#[125]⟩] 9)) = w36 at *
       generalize (World.heap w34).size = b_k35 at *
       refine (pt_want (sr_ne HQ.out) (g:=b_k35) _ HB_k35.out.f1.1 NB_k35.out HB_k35.out.lt HST.out).mono ?_
       rintro e w37 ⟨ht9,⟨v9,rfl,rfl,hst9⟩ | ⟨c9,p9,hr9,hc9,rfl⟩⟩
       rotate_left
       ·exact ⟨rfl,HUP.out _ _ (throw_end (HT.out.then ht9) hr9 hc9)⟩
       clear HB_k35 NB_k35 HG_k35
       replace HX:=bT HX ht9 NE
       replace HO:=Lib.hid (HO.out.turned ht9 (row_ne HO.out HQ.out))
       replace HZ:=zT HZ ht9
       replace HT:=tT HT ht9
       replace HST:=Lib.hid hst9
       clear ht9 hst9
       have hcb:=(HT.out.blk HBB.out NBB.out).f1.1
       go_wp2_with fail
       (try clear hcb)
       refine (pt_node (K:=(fun (t u : Nd) (ls : List Nd) s => (fun (_ _ : Nd) (_ : List Nd) n s => Res.ok n s) t u [] (.mk 2 ((fun (t _ : Nd) => t.text) t u) 0 ls) s)) (sr_ne HQ.out) 2 _ _ _ _ HST.out).mono ?_
       rintro e w38 ⟨rfl,ht9,hst9⟩
       replace HX:=bT HX ht9 NE
       replace HO:=Lib.hid (HO.out.turned ht9 (row_ne HO.out HQ.out))
       replace HZ:=zT HZ ht9
       replace HT:=tT HT ht9
       replace HST:=Lib.hid hst9
       clear ht9 hst9
       replace HST:=Lib.hid (PT.made (K:=(fun (_ _ : Nd) (_ : List Nd) n s => Res.ok n s)) (S':=SR w (.slice none 0 0)) (fun (t _ : Nd) => t.text) (fun _ _ h _ => h.symm) HO.out (fun b h => ⟨h.1,fun e => by cases e⟩) (fun k hk => ⟨row_gt HO.out k hk,fun e => by cases e⟩) HST.out)
       clear HO
       have HO:=Lib.hid (OwnN.nil w38 (w.heap.size + 1))
       obtain ⟨u0,u1,u2,u3,g0,g1,g2,g3,gl⟩:=HX.out.f4
       have hcb:=(HT.out.blk HBB.out NBB.out).f1.1
       go_wp2_with fail
       (try clear hcb)
       clear u0 u1 u2 u3 g0 g1 g2 g3 gl
       have HEND:=Lib.hid (pt_end (x:=(⟨2,t,0,B_r,m_r,d_r⟩ : NV)) HQ.out HT.out HX.out (fun b h => h.1) HST.out rfl)
       refine open_post (fun W => Blk W w.heap.size 24 #[.int .i64 (⟨2,t,0,B_r,m_r,d_r⟩ : NV).kind,.string (⟨2,t,0,B_r,m_r,d_r⟩ : NV).text,.int .i64 (⟨2,t,0,B_r,m_r,d_r⟩ : NV).num,.slice (⟨2,t,0,B_r,m_r,d_r⟩ : NV).a (⟨2,t,0,B_r,m_r,d_r⟩ : NV).len (⟨2,t,0,B_r,m_r,d_r⟩ : NV).cap] ∧ PEnd E rr w (.returned (nvA (⟨2,t,0,B_r,m_r,d_r⟩ : NV))) W) HEND.out ?_
       rintro W ⟨hb,hE⟩
       obtain ⟨v0,v1,v2,v3,-⟩:=hb.f4
       exact bodyPost_ret (v:=nvA (⟨2,t,0,B_r,m_r,d_r⟩ : NV)) (by simp [results,Tryz.results62,go_sem,nvA,v0,v1,v2,v3]) rfl (HUP.out _ _ hE)
      ·have HST:=Lib.hid (hy9 rfl)
       clear hy9 hn9
       exact absurd (HST.out.notout hX) HO0.out
   ·have HST:=Lib.hid (hy9 rfl)
    clear hy9 hn9
    have hcb:=(HT.out.blk HBB.out NBB.out).f1.1
    go_wp2_with fail
    (try clear hcb)
    replace HX : Hid (Blk w24.drew w.heap.size 24 #[.int .i64 0,.string ⟨#[]⟩,.int .i64 0,.slice none 0 0]):=HX.out.drewN 1
    replace HO : Hid (OwnN w24.drew (w.heap.size + 1) (.slice A_r n_r c_r) xs_r):=HO.out.turned (Turned.of_below (fun b => b = E.Q) (belowN w24.heap.size w24 1)) (row_ne HO.out HQ.out)
    replace HZ : Hid (w.heap.size < w24.drew.heap.size):=HZ.out
    replace HT : Hid (Turned w w24.drew (fun b => b = E.Q)):=HT.out.drewN 1
    have HST2 : Hid (PT E rr w24.drew (fun (t _ : Nd) (ls : List Nd) s => (nameP E.L E.e s).bind fun u s => (fun (t u : Nd) (ls : List Nd) (s : PS) => (fun (t u : Nd) (ls : List Nd) (s : PS) => (fun (t u : Nd) (ls : List Nd) (n : Nd) s => (fun (t _ : Nd) (ls : List Nd) s => (wantP E.L E.e ⟨#[59]⟩ s).bind fun _ s => (run E.L E.e g2 (.slotsL ls) s).bind (clsK2 E f t)) t u (ls ++ [n]) s) t u ls (.mk 3 u.text 0 []) s) t u ls ⟨s.i,s.dep,s.many + 1⟩) t u ls s) _ _ _ _ _):=Lib.hid (HST.out.below (belowN w24.heap.size w24 1))
    have HNAME:=Lib.hid ((pt_name2 (K:=(fun (t u : Nd) (ls : List Nd) (s : PS) => (fun (t u : Nd) (ls : List Nd) (s : PS) => (fun (t u : Nd) (ls : List Nd) (n : Nd) s => (fun (t _ : Nd) (ls : List Nd) s => (wantP E.L E.e ⟨#[59]⟩ s).bind fun _ s => (run E.L E.e g2 (.slotsL ls) s).bind (clsK2 E f t)) t u (ls ++ [n]) s) t u ls (.mk 3 u.text 0 []) s) t u ls ⟨s.i,s.dep,s.many + 1⟩)) (sr_ne HQ.out) HST2.out).mono (fun _ _ h => way_open h))
    clear HST HST2
    have hcb:=(HT.out.blk HBB.out NBB.out).f1.1
    have HBD : Hid (xs_r.length ≤ 1000000):=by have h1:=HL.out;have h2:=HI.out;show _ ≤ _;omega
    go_region_law (first
      | (go_simp;go_at_call 90;with_reducible refine HNAME.out.mono ?_;rintro e w9 ⟨ht9,⟨v9,rfl,u9,rfl,hst9⟩ | ⟨c9,p9,hr9,hc9,rfl⟩⟩;rotate_left;exact throw_out rfl (HUP.out _ _ (throw_end (HT.out.then ht9) hr9 hc9));have HF:=Lib.hid (And.intro ht9 hst9);have hcb9:=((HT.out.then ht9).blk HBB.out NBB.out).f1.1;have HNODE:=Lib.hid (pt_node (K:=(fun (t u : Nd) (ls : List Nd) (s : PS) => (fun (t u : Nd) (ls : List Nd) (n : Nd) s => (fun (t _ : Nd) (ls : List Nd) s => (wantP E.L E.e ⟨#[59]⟩ s).bind fun _ s => (run E.L E.e g2 (.slotsL ls) s).bind (clsK2 E f t)) t u (ls ++ [n]) s) t u ls (.mk 3 u.text 0 []) s)) (sr_ne HQ.out) 3 u9 none 0 0 hst9);clear ht9 hst9)
      | (go_simp;go_at_call 66;with_reducible refine HNODE.out.mono ?_;rintro e w10 ⟨rfl,ht10,hst10⟩;have HTt:=Lib.hid (HF.out.1.then ht10);have HXn:=Lib.hid ((HTt.out.blk HX.out NE.out).alloc (.cells #[.int .i64 3,.string u9,.int .i64 0,.slice none 0 0] 24));have HOn:=Lib.hid ((HO.out.turned HTt.out (row_ne HO.out HQ.out)).alloc (.cells #[.int .i64 3,.string u9,.int .i64 0,.slice none 0 0] 24));have HTn:=Lib.hid ((HT.out.then HTt.out).alloc (.cells #[.int .i64 3,.string u9,.int .i64 0,.slice none 0 0] 24));have HZn:=Lib.hid (size_up (Nat.lt_of_lt_of_le HZ.out HTt.out.size) (.cells #[.int .i64 3,.string u9,.int .i64 0,.slice none 0 0] 24));have HSTn:=Lib.hid (PT1.alloc (PT.leaf (K:=fun (t u : Nd) (ls : List Nd) (n : Nd) s => (fun (t _ : Nd) (ls : List Nd) s => (wantP E.L E.e ⟨#[59]⟩ s).bind fun _ s => (run E.L E.e g2 (.slotsL ls) s).bind (clsK2 E f t)) t u (ls ++ [n]) s) (kd:=3) (nm:=0) (tx:=u9) (fun _ u => u.text) (fun _ _ _ h => h.symm) 0 hst10) (.cells #[.int .i64 3,.string u9,.int .i64 0,.slice none 0 0] 24));have LIEn:=Lib.hid (lie_new w10 [(⟨3,u9,0,none,0,0⟩ : NV)] #[.int .i64 3,.string u9,.int .i64 0,.slice none 0 0] 24 rfl);have hone:=one_le (⟨3,u9,0,none,0,0⟩ : NV);clear ht10 hst10)
      | (refine step_joinNd rfl _ _ rfl (w.heap.size + 1) _ _ rfl HOn.out (some ⟨w10.heap.size,0,none⟩) [(⟨3,u9,0,none,0,0⟩ : NV)] 1 rfl LIEn.out HBD.out hone HZn.out ?_;intro A50 n50 c50 w50 hown hgr hpl;have HOWN:=Lib.hid hown;have HGR:=Lib.hid hgr;have HPL:=Lib.hid hpl;clear hown hgr hpl))
    all_goals
     clear hcb hcb9 hone HNODE HNAME HBD
     replace HX:=Lib.hid (HXn.out.grown HGR.out (row_nw HOn.out))
     replace HZ:=Lib.hid (Nat.lt_of_lt_of_le (Nat.lt_of_succ_le HZn.out) HGR.out.size)
     replace HT:=Lib.hid (HTn.out.grown HGR.out (fun k e => .inr (row_ge HOn.out k e)))
     have HST:=Lib.hid (PT1.push (K:=(fun (t _ : Nd) (ls : List Nd) s => (wantP E.L E.e ⟨#[59]⟩ s).bind fun _ s => (run E.L E.e g2 (.slotsL ls) s).bind (clsK2 E f t))) HSTn.out HQ.out HOn.out HGR.out HPL.out)
     replace HO:=HOWN
     clear LIEn HGR HPL HOWN HXn HOn HTn HZn HSTn HTt HF
     go_simp
     have hcb:=(HT.out.blk HBB.out NBB.out).f1.1
     go_wp2_with fail
     (try clear hcb)
     have HB_k39:=Lib.hid (Blk.new w50 9 #[.string ⟨#[59]⟩])
     have NB_k39:=nE HQ HZ
     have HG_k39 : Hid (w.heap.size < (World.heap w50).size):=HZ.out
     replace HX:=bA HX (.cells #[.string ⟨#[59]⟩] 9)
     replace HO:=oA HO (.cells #[.string ⟨#[59]⟩] 9)
     replace HST:=Lib.hid (HST.out.alloc (.cells #[.string ⟨#[59]⟩] 9))
     replace HT:=tA HT (.cells #[.string ⟨#[59]⟩] 9)
     replace HZ:=zA HZ (.cells #[.string ⟨#[59]⟩] 9)
     have hcb:=(HT.out.blk HBB.out NBB.out).f1.1
     go_wp2_with fail
     (try clear hcb)
     (try rw [← (show (World.alloc w50 (.cells #[.string ⟨#[59]⟩] 9)).heap.size = _ from World.size_alloc _ _)])
     generalize (World.alloc w50 (.cells #[.string ⟨#[59]⟩] 9)) = w40 at *
     generalize (World.heap w50).size = b_k39 at *
     refine (pt_want (sr_ne HQ.out) (g:=b_k39) _ HB_k39.out.f1.1 NB_k39.out HB_k39.out.lt HST.out).mono ?_
     rintro e w41 ⟨ht9,⟨v9,rfl,rfl,hst9⟩ | ⟨c9,p9,hr9,hc9,rfl⟩⟩
     rotate_left
     ·exact ⟨rfl,HUP.out _ _ (throw_end (HT.out.then ht9) hr9 hc9)⟩
     clear HB_k39 NB_k39 HG_k39
     replace HX:=bT HX ht9 NE
     replace HO:=Lib.hid (HO.out.turned ht9 (row_ne HO.out HQ.out))
     replace HZ:=zT HZ ht9
     replace HT:=tT HT ht9
     replace HST:=Lib.hid hst9
     clear ht9 hst9
     have hi2:=HST.out.le
     have hl9:=HL.out
     have hg9:=HGK.out
     have hcb:=(HT.out.blk HBB.out NBB.out).f1.1
     go_wp2_with fail
     (try clear hcb)
     go_roundg (gk - 1)
     case measure => omega
     case rel => exact ⟨HT.out,HZ.out,HX.out,_,_,_,_,_,g2,i + 1,rfl,HO.out,by simp;omega,by omega,by omega,by omega,HST.out.low (by omega)⟩
end Go.Proofs.YtbpldfmmlgkfnaaGreatDoor
