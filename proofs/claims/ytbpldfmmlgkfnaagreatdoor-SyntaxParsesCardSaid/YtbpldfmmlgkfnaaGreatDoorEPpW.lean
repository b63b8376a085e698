/- The plain parser: how many nodes were made before does not matter to what is made. No program in sight. A method's box behind its list: its kids and their number stored. A method's block: it is called, put behind the method's kids, and these are stored. Conditions: as each theorem says. -/
import Derived.Test.YtbpldfmmlgkfnaaGreatDoorEPpL
import Derived.Test.YtbpldfmmlgkfnaaGreatDoorEPpK
namespace Go.Proofs.YtbpldfmmlgkfnaaGreatDoor
open Go.RowKit
set_option linter.unusedVariables false
def upS (s : PS) : PS:=⟨s.i,s.dep,s.many + 1⟩
inductive UpR : Res → Res → Prop where
 | ok (n : Nd) (s : PS) : UpR (.ok n s) (.ok n (upS s))
 | no (c : Int) (p : Nat) : UpR (.no c p) (.no c p)
 | out : UpR .out .out
section
variable {L : List Tok} {e : Nat}
theorem up_bind {r r' : Res} {k k' : Nd → PS → Res} (h : UpR r r') (hk : ∀ n s,UpR (k n s) (k' n (upS s))) : UpR (r.bind k) (r'.bind k'):=by
 cases h with
 | ok n s => exact hk n s
 | no c p => exact .no c p
 | out => exact .out
theorem up_eq {r r' : Res} {k k' : Nd → PS → Res} (h : UpR r r') (hk : ∀ n s,k' n (upS s) = k n s) : r'.bind k' = r.bind k:=by
 cases h with
 | ok n s => exact hk n s
 | no c p => rfl
 | out => rfl
theorem up_want (x : ByteArray) (s : PS) : UpR (wantP L e x s) (wantP L e x (upS s)):=by
 unfold wantP
 by_cases h : seesP L x s = true
 ·rw [if_pos h,if_pos (show seesP L x (upS s) = true from h)]
  by_cases h2 : x = tx "(" ∨ x = tx "\x7b"
  ·rw [if_pos h2,if_pos h2]
   by_cases h3 : 20 < s.dep + 1
   ·rw [if_pos h3,if_pos (show 20 < (upS s).dep + 1 from h3)];exact .no _ _
   ·rw [if_neg h3,if_neg (show ¬ 20 < (upS s).dep + 1 from h3)];exact .ok _ ⟨s.i + 1,s.dep + 1,s.many⟩
  ·rw [if_neg h2,if_neg h2]
   by_cases h3 : x = tx ")" ∨ x = tx "\x7d"
   ·rw [if_pos h3,if_pos h3];exact .ok _ ⟨s.i + 1,s.dep - 1,s.many⟩
   ·rw [if_neg h3,if_neg h3];exact .ok _ (stepP s)
 ·rw [if_neg h,if_neg (show ¬ seesP L x (upS s) = true from h)];exact .no _ _
theorem up_name (s : PS) : UpR (nameP L e s) (nameP L e (upS s)):=by
 unfold nameP
 by_cases h : isP L 1 s = true
 ·rw [if_pos h,if_pos (show isP L 1 (upS s) = true from h)];exact .ok _ (stepP s)
 ·rw [if_neg h,if_neg (show ¬ isP L 1 (upS s) = true from h)];exact .no _ _
theorem up_node (k : Int) (t : ByteArray) (num : Int) (kids : List Nd) (s : PS) : UpR (nodeP k t num kids s) (nodeP k t num kids (upS s)):=.ok _ ⟨s.i,s.dep,s.many + 1⟩
theorem up_if {c : Prop} [Decidable c] {a b a' b' : Res} (h1 : UpR a a') (h2 : UpR b b') : UpR (if c then a else b) (if c then a' else b'):=by
 split
 ·exact h1
 ·exact h2
theorem up_sees (x : ByteArray) (s : PS) : seesP L x (upS s) = seesP L x s:=rfl
theorem up_is (k : Int) (s : PS) : isP L k (upS s) = isP L k s:=rfl
theorem up_text (s : PS) : textP L (upS s) = textP L s:=rfl
theorem up_step (s : PS) : stepP (upS s) = upS (stepP s):=rfl
set_option maxHeartbeats 2000000 in
theorem run_up : ∀ (f : Nat) (c : Cmd) (s : PS),UpR (run L e f c s) (run L e f c (upS s)):=by
 intro f
 induction f with
 | zero => intro c s;exact .out
 | succ f ih =>
  intro c s
  cases c
  all_goals
   simp only [run,up_sees,up_is,up_text,up_step]
   repeat' (first
    | exact .ok _ _
    | exact up_node _ _ _ _ _
    | exact ih _ _
    | exact up_want _ _
    | exact up_name _
    | refine up_if ?_ ?_
    | refine up_bind ?_ (fun _ _ => ?_))
end
theorem up_list (E : Env) (f : Nat) (s : PS) : UpR (listM E f s) (listM E f (upS s)):=by
 unfold listM
 refine up_bind (up_want _ _) (fun _ s => up_bind ?_ (fun a s => ?_))
 ·rw [up_sees]
  exact up_if (.ok _ _) (run_up _ _ _)
 ·unfold finL
  exact up_bind (up_want _ _) (fun _ s => .ok _ _)
/-- A method's rest behind its name, its node counted ahead. -/
def methX (E : Env) (f : Nat) (t : Nd) (s : PS) : Res:=(listM E f s).bind fun a s => (run E.L E.e f .block s).bind fun b s => .ok (.mk 4 t.text (a.kids.length : Nat) (a.kids ++ [b])) s
theorem meth_eq (E : Env) (f : Nat) (s : PS) : run E.L E.e (f + 1) .meth s = (nameP E.L E.e s).bind fun t s => methX E f t ⟨s.i,s.dep,s.many + 1⟩:=by
 have hr : run E.L E.e (f + 1) .meth s = (nameP E.L E.e s).bind fun t s => (listM E f s).bind fun a s => (run E.L E.e f .block s).bind fun b s => .ok (.mk 4 t.text (a.kids.length : Nat) (a.kids ++ [b])) (upS s):=by
  simp only [run,tx_lp,tx_rp,nodeP,listM,finL,bind_assoc,ok_bind,upS]
 rw [hr]
 congr 1
 funext t s
 exact (up_eq (up_list E f s) (fun a s => up_eq (run_up f .block s) (fun b s => rfl))).symm
end Go.Proofs.YtbpldfmmlgkfnaaGreatDoor

namespace Go.Proofs.YtbpldfmmlgkfnaaGreatDoor
open Go.RowKit
set_option linter.unusedVariables false
/-- Two cells of a box of one's own are turned: all else stays. -/
theorem m_two {w wc W W2 : World} {E : Env} {s : PS} {v : Value} {xs zs : List NV} {ls ks : List Nd} {bm k : Nat} {A : Option Addr} {c : Nat} {u : ByteArray} {v2 v3 : Value} (hQ : E.Q < w.heap.size) (hbl : w.heap.size < bm) (hbw : bm < wc.heap.size) (ht : Turned w W (fun b => b = E.Q)) (hx : Blk W w.heap.size 24 #[.int .i64 0,.string ⟨#[]⟩,.int .i64 0,.slice none 0 0])
  (hb : Blk W bm 24 #[.int .i64 4,.string u,v2,v3]) (ho : OwnN W (w.heap.size + 1) v xs) (hbo : v.ownBlock ≠ some bm) (ha : AllN W (fun b => SR w v b ∧ b ≠ bm ∧ b < wc.heap.size) xs ls) (hoz : OwnN W (wc.heap.size + 1) (.slice A zs.length c) zs) (haz : AllN W (SR wc (.slice A zs.length c)) zs ks) (hat : PAt W E s)
  (hW : W2 = ((W.setCell ⟨bm,3,none⟩ (.slice A zs.length c)).setCell ⟨bm,2,none⟩ (.int .i64 (zs.length : Nat)))) :
  Turned w W2 (fun b => b = E.Q) ∧ W2.heap.size = W.heap.size ∧ Blk W2 w.heap.size 24 #[.int .i64 0,.string ⟨#[]⟩,.int .i64 0,.slice none 0 0] ∧ Blk W2 bm 24 #[.int .i64 4,.string u,.int .i64 (zs.length : Nat),.slice A zs.length c] ∧
   OwnN W2 (w.heap.size + 1) v xs ∧ AllN W2 (fun b => SR w v b ∧ b ≠ bm ∧ b < wc.heap.size) xs ls ∧ OwnN W2 (wc.heap.size + 1) (.slice A zs.length c) zs ∧ AllN W2 (SR wc (.slice A zs.length c)) zs ks ∧ PAt W2 E s:=by
 have hs:=((Turned.refl W (fun b => b = bm)).setCell (p:=⟨bm,3,none⟩) (.inl rfl) (.slice A zs.length c)).setCell (p:=⟨bm,2,none⟩) (.inl rfl) (.int .i64 (zs.length : Nat))
 have h1:=(ht.setCell (p:=⟨bm,3,none⟩) (.inr (Nat.le_of_lt hbl)) (.slice A zs.length c)).setCell (p:=⟨bm,2,none⟩) (.inr (Nat.le_of_lt hbl)) (.int .i64 (zs.length : Nat))
 have h2:=(hb.set_ 3 (.slice A zs.length c)).set_ 2 (.int .i64 (zs.length : Nat))
 have h3 : ((W.setCell ⟨bm,3,none⟩ (.slice A zs.length c)).setCell ⟨bm,2,none⟩ (.int .i64 (zs.length : Nat))).heap.size = W.heap.size:=by simp [World.setCell]
 rw [← hW] at hs h1 h2 h3
 exact ⟨h1,h3,hs.blk hx (fun e => by have e2 : w.heap.size = bm:=e;omega),h2,ho.turned hs (fun k hk e => hbo (by rw [hk,show k = bm from e])),ha.turned hs (fun b hb e => hb.2.1 e),hoz.turned hs (fun k hk e => by have h5:=(hoz.lt k hk).1;have e2 : k = bm:=e;omega),haz.turned hs (fun b hb e => by have h5:=hb.1;have e2 : b = bm:=e;omega),hat.kept hs.size (fun k hk => hs.block k (Nat.lt_of_le_of_lt hk hat.old) (fun e => by have e2 : k = bm:=e;omega))⟩
/-- Behind the block: it is appended to the method's kids, which are stored; the method is a node beside. -/
theorem m_three {w wc W W' W2 : World} {E : Env} {rr : Res} {s : PS} {t9 n9 b : Nd} {KK : Nd → List Nd → Nd → PS → Res} {v : Value} {xs zs : List NV} {ls ks : List Nd} {x_b : NV} {bm n c' : Nat} {A V : Option Addr} {c : Nat} {u : ByteArray} (hQ : E.Q < w.heap.size) (hbl : w.heap.size < bm) (hbw : bm < wc.heap.size) (hvw : ∀ k,v.ownBlock = some k → k < wc.heap.size) (ht : Turned w W (fun b => b = E.Q)) (hz : w.heap.size < W.heap.size) (hx : Blk W w.heap.size 24 #[.int .i64 0,.string ⟨#[]⟩,.int .i64 0,.slice none 0 0])
  (hb : Blk W bm 24 #[.int .i64 4,.string u,.int .i64 (zs.length : Nat),.slice A zs.length c]) (ho : OwnN W (w.heap.size + 1) v xs) (hbo : v.ownBlock ≠ some bm) (ha : AllN W (fun b => SR w v b ∧ b ≠ bm ∧ b < wc.heap.size) xs ls) (hoz : OwnN W (wc.heap.size + 1) (.slice A zs.length c) zs) (haz : AllN W (SR wc (.slice A zs.length c)) zs ks) (hxb : IsN W (SR wc (.slice A zs.length c)) x_b b) (hat : PAt W E s)
  (hg : W.grownBy W' (Value.slice A zs.length c).ownBlock) (hown : OwnN W' (wc.heap.size + 1) (.slice V n c') (zs ++ [x_b])) (hp : ∀ k,(Value.slice V n c').ownBlock = some k → (Value.slice A zs.length c).ownBlock = some k ∨ k = W.heap.size) (hr : rr = KK t9 ls (.mk 4 n9.text (ks.length : Nat) (ks ++ [b])) s) (hu : u = n9.text) (hW : W2 = W'.setCell ⟨bm,3,none⟩ (.slice V n c')) :
  Turned w W2 (fun b => b = E.Q) ∧ w.heap.size < W2.heap.size ∧ Blk W2 w.heap.size 24 #[.int .i64 0,.string ⟨#[]⟩,.int .i64 0,.slice none 0 0] ∧ OwnN W2 (w.heap.size + 1) v xs ∧ Blk W2 bm 24 #[.int .i64 4,.string u,.int .i64 (zs.length : Nat),.slice V n c'] ∧
   PT1 E rr W2 (fun t _ ls n s => KK t ls n s) t9.text ByteArray.empty xs ⟨4,u,(zs.length : Nat),V,n,c'⟩ (SR w v) s.i:=by
 have hwc : w.heap.size < wc.heap.size:=Nat.lt_trans hbl hbw
 have hrow : ∀ k,(Value.slice A zs.length c).ownBlock = some k → wc.heap.size + 1 ≤ k:=fun k hk => (hoz.lt k hk).1
 have hbW:=hb.lt
 have g1 : Turned w W' (fun b => b = E.Q):=ht.grown hg (fun k e => .inr (by have:=hrow k e;omega))
 have g2:=hx.grown hg (fun e => by have:=hrow _ e.symm;omega)
 have g3:=hb.grown hg (fun e => by have:=hrow _ e.symm;omega)
 have g4 : OwnN W' (w.heap.size + 1) v xs:=by
  refine ho.grown hg ?_
  cases hv : v.ownBlock with
  | none => exact .inl rfl
  | some k => exact .inr (fun e => by have h1:=hrow k e.symm;have h2:=hvw k hv;omega)
 have g5 : AllN W' (fun b => SR w v b ∧ b ≠ bm ∧ b < wc.heap.size) xs ls:=ha.kept hg.size (fun b hb hs => hg.block b hb (fun e => by have h1:=hrow b e.symm;have h2:=hs.2.2;omega)) (fun b _ h => h)
 have g6:=haz.pushed hxb hoz hg hp
 have g7 : PAt W' E s:=hat.grown hg (fun k e => by have:=hrow k e;omega)
 have hs:=(Turned.refl W' (fun b => b = bm)).setCell (p:=⟨bm,3,none⟩) (.inl rfl) (.slice V n c')
 have h1:=g1.setCell (p:=⟨bm,3,none⟩) (.inr (Nat.le_of_lt hbl)) (.slice V n c')
 have h2:=g3.set_ 3 (.slice V n c')
 rw [← hW] at hs h1 h2
 have k1 : OwnN W2 (wc.heap.size + 1) (.slice V n c') (zs ++ [x_b]):=hown.turned hs (fun k hk e => by have h5:=(hown.lt k hk).1;have e2 : k = bm:=e;omega)
 have k2 : AllN W2 (SR wc (.slice V n c')) (zs ++ [x_b]) (ks ++ [b]):=g6.turned hs (fun b hb e => by have h5:=hb.1;have e2 : b = bm:=e;omega)
 have k3 : AllN W2 (fun b => SR w v b ∧ b ≠ bm ∧ b < wc.heap.size) xs ls:=g5.turned hs (fun b hb e => hb.2.1 e)
 have k4 : PAt W2 E s:=g7.kept hs.size (fun k hk => hs.block k (Nat.lt_of_le_of_lt hk g7.old) (fun e => by have e2 : k = bm:=e;omega))
 obtain ⟨A9,c9,e9,-,hn9⟩:=k1.nodes (S':=SR w v) k2 (fun b hb => ⟨Nat.lt_trans hwc hb.1,fun e => by have h5:=hvw b e;have h6:=hb.1;omega⟩) (fun k hk => ⟨by have:=(k1.lt k hk).1;omega,fun e => by have h5:=hvw k e;have h6:=(k1.lt k hk).1;omega⟩)
 cases e9
 have hzl:=haz.1
 refine ⟨h1,Nat.lt_of_lt_of_le hz (Nat.le_trans hg.size hs.size),hs.blk g2 (fun e => by have e2 : w.heap.size = bm:=e;omega),g4.turned hs (fun k hk e => hbo (by rw [hk,show k = bm from e])),h2,t9,nd0,ls,_,s,hr,k4,rfl,rfl,k3.kept (Nat.le_refl _) (fun _ _ _ => rfl) (fun b _ hb => hb.1),⟨⟨rfl,hu,by show ((zs.length : Nat) : Int) = (ks.length : Nat);rw [hzl],rfl⟩,hn9⟩,Nat.le_refl _⟩
end Go.Proofs.YtbpldfmmlgkfnaaGreatDoor

namespace Go.Proofs.YtbpldfmmlgkfnaaGreatDoor
open Go.RowKit
set_option linter.unusedVariables false
/-- Behind a method's block: the method is a node in its box. -/
def M3 (w : World) (E : Env) (rr : Res) (KK : Nd → List Nd → Nd → PS → Res) (tv u : ByteArray) (v : Value) (xs : List NV) (bm k lo : Nat) (wx : World) : Prop :=
 ∃ V n c,Turned w wx (fun b => b = E.Q) ∧ w.heap.size < wx.heap.size ∧ Blk wx w.heap.size 24 #[.int .i64 0,.string ⟨#[]⟩,.int .i64 0,.slice none 0 0] ∧ OwnN wx (w.heap.size + 1) v xs ∧ Blk wx bm 24 #[.int .i64 4,.string u,.int .i64 (k : Int),.slice V n c] ∧
  PT1 E rr wx (fun t _ ls n s => KK t ls n s) tv ByteArray.empty xs ⟨4,u,(k : Nat),V,n,c⟩ (SR w v) lo
/-- Behind the block's call, before it is put behind the kids. -/
structure M4 (w wc : World) (E : Env) (rr : Res) (KK : Nd → List Nd → Nd → PS → Res) (tv u : ByteArray) (v : Value) (xs zs : List NV) (A : Option Addr) (c bm lo : Nat) (x : NV) (W : World) : Prop where
 blk : Blk W bm 24 #[.int .i64 4,.string u,.int .i64 (zs.length : Nat),.slice A zs.length c]
 blka : Blk (W.alloc (.cells #[.int .i64 x.kind,.string x.text,.int .i64 x.num,.slice x.a x.len x.cap] 24)) bm 24 #[.int .i64 4,.string u,.int .i64 (zs.length : Nat),.slice A zs.length c]
 own : OwnN (W.alloc (.cells #[.int .i64 x.kind,.string x.text,.int .i64 x.num,.slice x.a x.len x.cap] 24)) (wc.heap.size + 1) (.slice A zs.length c) zs
 lie : LieN (W.alloc (.cells #[.int .i64 x.kind,.string x.text,.int .i64 x.num,.slice x.a x.len x.cap] 24)) (some ⟨W.heap.size,0,none⟩) [x]
 big : wc.heap.size + 1 ≤ (W.alloc (.cells #[.int .i64 x.kind,.string x.text,.int .i64 x.num,.slice x.a x.len x.cap] 24)).heap.size
 next : ∀ V n c' W',OwnN W' (wc.heap.size + 1) (.slice V n c') (zs ++ [x]) → (W.alloc (.cells #[.int .i64 x.kind,.string x.text,.int .i64 x.num,.slice x.a x.len x.cap] 24)).grownBy W' (Value.slice A zs.length c).ownBlock →
  (∀ k,(Value.slice V n c').ownBlock = some k → (Value.slice A zs.length c).ownBlock = some k ∨ k = (W.alloc (.cells #[.int .i64 x.kind,.string x.text,.int .i64 x.num,.slice x.a x.len x.cap] 24)).heap.size) →
  Blk W' bm 24 #[.int .i64 4,.string u,.int .i64 (zs.length : Nat),.slice A zs.length c] ∧ ∀ W2,W2 = W'.setCell ⟨bm,3,none⟩ (.slice V n c') → M3 w E rr KK tv u v xs bm zs.length lo W2
theorem m_block {g : Nat} (ihB : PCall g .block 64) {w wc W : World} {E : Env} {rr : Res} {s : PS} {t9 n9 : Nd} {KK : Nd → List Nd → Nd → PS → Res} {v : Value} {xs zs : List NV} {ls ks : List Nd} {bm c lo : Nat} {A : Option Addr} {u tv : ByteArray} (hQ : E.Q < w.heap.size) (hbl : w.heap.size < bm) (hbw : bm < wc.heap.size) (hvw : ∀ k,v.ownBlock = some k → k < wc.heap.size) (hwc : wc.heap.size < W.heap.size) (ht : Turned w W (fun b => b = E.Q)) (hx : Blk W w.heap.size 24 #[.int .i64 0,.string ⟨#[]⟩,.int .i64 0,.slice none 0 0])
  (hb : Blk W bm 24 #[.int .i64 4,.string u,.int .i64 (zs.length : Nat),.slice A zs.length c]) (ho : OwnN W (w.heap.size + 1) v xs) (hbo : v.ownBlock ≠ some bm) (ha : AllN W (fun b => SR w v b ∧ b ≠ bm ∧ b < wc.heap.size) xs ls) (hoz : OwnN W (wc.heap.size + 1) (.slice A zs.length c) zs) (haz : AllN W (SR wc (.slice A zs.length c)) zs ks) (hat : PAt W E s)
  (hr : rr = (run E.L E.e g .block s).bind fun b s => KK t9 ls (.mk 4 n9.text (ks.length : Nat) (ks ++ [b])) s) (hout : rr ≠ .out) (hu : u = n9.text) (htv : tv = t9.text) (hlo : lo ≤ s.i) :
  Calls Tryz.prog 64 #[.pointer (some ⟨E.Q,0,none⟩)] W.drew (fun e w' => (∃ x,e = .returned (nvA x) ∧ M4 w wc E rr KK tv u v xs zs A c bm lo x w') ∨ (∃ c p,e = thrown c p ∧ PEnd E rr w e w')):=by
 have hb1 : Turned W W.drew (fun b => b = E.Q):=Turned.of_below (fun b => b = E.Q) (belowN W.heap.size W 1)
 have hq2 : ∀ b,SR wc (.slice A zs.length c) b → ¬ b = E.Q:=fun b hb e => by have h1:=hb.1;omega
 have hz : w.heap.size < W.heap.size:=by omega
 have hno : run E.L E.e g .block s ≠ .out:=fun h => hout (hr.trans (bind_out h))
 have hm : ∀ b s',run E.L E.e g .block s = .ok b s' → s.i ≤ s'.i:=fun b s' h => Nat.le_trans (Nat.le_add_right _ _) (run_mono E.L E.e g .block s b s' h)
 refine (ihB E s W.drew (hat.drewN 1) hno).mono ?_
 rintro e w' ⟨ht9,⟨v9,rfl,b,s',x,hrb,rfl,hs',hn⟩ | ⟨c9,p9,hrb,hc9,rfl⟩⟩
 ·have h9:=hb1.then ht9
  have k1:=ht.then h9
  have k2:=h9.blk hx (fun e => by have e2 : w.heap.size = E.Q:=e;omega)
  have k3:=h9.blk hb (fun e => by have e2 : bm = E.Q:=e;omega)
  have k4:=ho.turned h9 (row_ne ho hQ)
  have k5 : AllN w' (fun b => SR w v b ∧ b ≠ bm ∧ b < wc.heap.size) xs ls:=ha.turned h9 (fun b hb => sr_ne hQ b hb.1)
  have k6:=hoz.turned h9 (fun k hk e => by have h1:=(hoz.lt k hk).1;have e2 : k = E.Q:=e;omega)
  have k7:=haz.turned h9 hq2
  have k8 : IsN w' (SR wc (.slice A zs.length c)) x b:=hn.weak (fun k _ hk => by
   have hk2 : W.heap.size ≤ k:=hk
   exact ⟨by omega,fun e => by have h1:=(hoz.lt k e).2;omega⟩)
  have hsz:=h9.size
  refine .inl ⟨x,rfl,k3,k3.alloc _,k6.alloc _,lie_new w' [x] _ _ rfl,by rw [World.size_alloc];omega,?_⟩
  intro V n c' W' hown hg hp
  refine ⟨(k3.alloc _).grown hg (fun e => by have h1:=(hoz.lt _ e.symm).1;omega),fun W2 hW2 => ?_⟩
  obtain ⟨q1,q2,q3,q4,q5,q6⟩:=m_three (rr:=rr) (t9:=t9) (n9:=n9) (b:=b) (KK:=KK) (s:=s') hQ hbl hbw hvw (k1.alloc (.cells #[.int .i64 x.kind,.string x.text,.int .i64 x.num,.slice x.a x.len x.cap] 24)) (by rw [World.size_alloc];omega) (k2.alloc _) (k3.alloc _) (k4.alloc _) hbo (k5.alloc _) (k6.alloc _) (k7.alloc _) (k8.alloc _) (hs'.alloc _) hg hown hp (hr.trans (bind_ok hrb)) hu hW2
  subst htv
  obtain ⟨t8,u8,ls8,n8,s8,z1,z2,z3,z4,z5,z6,z7⟩:=q6
  exact ⟨V,n,c',q1,q2,q3,q4,q5,t8,u8,ls8,n8,s8,z1,z2,z3,z4,z5,z6,Nat.le_trans (Nat.le_trans hlo (hm b s' hrb)) z7⟩
 ·exact .inr ⟨c9,p9,rfl,throw_end (ht.then (hb1.then ht9)) (hr.trans (bind_no hrb)) hc9⟩
end Go.Proofs.YtbpldfmmlgkfnaaGreatDoor
