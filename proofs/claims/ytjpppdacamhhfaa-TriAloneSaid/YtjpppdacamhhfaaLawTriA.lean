/- What TriAlone's code computes, with the plain law of being left alone and rows of ops (several texts in one). Conditions: the words are numbers of 64 bits. -/
import Derived.Test.YtjpppdacamhhfaaHSpec4
import Derived.Test.YtjpppdacamhhfaaTrSpec2
import Derived.Test.YtjpppdacamhhfaaCtM
import Derived.Test.YtjpppdacamhhfaaTrF
import Derived.Maps.AppendAt
import Derived.Test.YtjpppdacamhhfaaTrG
import Derived.Test.YtjpppdacamhhfaaRcM
namespace Go.Proofs.Ytjpppdacamhhfaa
open Go.RowKit
set_option linter.unusedVariables false

section
variable (xs ys : List Int) (A B : Option Addr) (c d : Nat) (w : World) (hA : Ints w A xs) (hB : Ints w B ys) (hl : xs.length ≤ 1000000000)
include hA hB hl
theorem kints_any : Calls Try.prog 58 #[.slice A xs.length c, .slice B ys.length d] w fun e w' => e = .returned (.bool (eqB xs ys)) ∧ ∃ m, w' = w.drewN m := by
  have HA := Lib.hid hA; clear hA
  have HB := Lib.hid hB; clear hB
  by_cases hlen : xs.length = ys.length
  · have HL := Lib.hid hlen
    have hle : xs.length ≤ ys.length := by omega
    have hge : ys.length ≤ xs.length := by omega
    have hd : ((xs.length : Int) != (ys.length : Int)) = false := by simp; omega
    clear hlen
    go_enter Try.func58, Try.ntmps58
    go_wp2_with fail
    go_loopw [5] (fun i wr => ∃ (k m : Nat), k ≤ xs.length ∧ i = .int .i64 k ∧ wr = w.drewN m ∧ ∀ j, j < k → nth xs j = nth ys j) (fun i _ => xs.length - (intOf i).toNat)
    case atStart => exact ⟨0, 0, Nat.zero_le _, rfl, rfl, fun j hj => absurd hj (Nat.not_lt_zero _)⟩
    case round =>
      obtain ⟨k, m, hk, rfl, rfl, hall⟩ := hrel
      have HALL := Lib.hid hall; clear hall
      by_cases hlt : k < xs.length
      · obtain ⟨b, o, rfl, _, hr⟩ := HA.out (by omega)
        obtain ⟨b', o', rfl, _, hr'⟩ := HB.out (by omega)
        have h1 := hr k hlt
        have h2 := hr' k (by omega)
        have f1 : (0 : Int) ≤ (k : Int) := by omega
        have f2 : (k : Int) < (xs.length : Int) := by omega
        have f3 : (k : Int) < (ys.length : Int) := by omega
        clear hr hr'
        cases he : (nth xs k != nth ys k)
        · have he' : nth xs k = nth ys k := by simpa using he
          have HE := Lib.hid he'; clear he'
          go_wp2_with fail
          go_quiet (fail)
          go_wp2
          go_roundw
          case rel => exact ⟨k + 1, _, by omega, by go_num, rfl, fun j hj => by rcases Nat.lt_or_ge j k with h | h; exact HALL.out j h; obtain rfl : j = k := by omega
                                                                                exact HE.out⟩
          case measure => simp [intOf]; omega
        · have he' : nth xs k ≠ nth ys k := by simpa using he
          have HE := Lib.hid (eqB_nth he'); clear he'
          go_wp2_with fail
          go_quiet (fail)
          go_wp2
          go_ret
          exact ⟨ret_bool HE.out.symm, _, World.drewN_drewN ..⟩
      · have HE := Lib.hid (eqB_all HL.out (fun j hj => HALL.out j (by omega)))
        go_wp2
        go_ret
        exact ⟨ret_bool HE.out.symm, _, rfl⟩
  · have HN := Lib.hid (eqB_len hlen)
    have hd : ((xs.length : Int) != (ys.length : Int)) = true := by simp; omega
    clear hlen
    go_enter Try.func58, Try.ntmps58
    go_wp2
    go_ret
    exact ⟨ret_bool HN.out.symm, 0, rfl⟩

end
end Go.Proofs.Ytjpppdacamhhfaa

namespace Go.Proofs.Ytjpppdacamhhfaa
set_option linter.unusedVariables false

def scanOp : TOp := ⟨1, 0, 0, 0, 0, 0⟩
def scans (ws : List Int) (col : Nat → Int) : Nat → (Nat → Int)
  | 0 => col
  | n + 1 => scanC ws (scans ws col n)
theorem fold_scans (s : TSt) : ∀ n, (List.replicate n scanOp).foldl doT s = ⟨s.ws, s.rs, scans s.ws s.col n⟩
  | 0 => rfl
  | n + 1 => by
    rw [List.replicate_succ', List.foldl_append, fold_scans s n]
    rfl
def blacks (ws : List Int) (col : Nat → Int) : Nat := ((places ws).filter fun p => col p == 2).length
theorem blacks_le (ws : List Int) (col : Nat → Int) : blacks ws col ≤ (places ws).length := List.length_filter_le _ _
theorem scan_idle {ws : List Int} {col : Nat → Int} (h : greyAt ws col = none) : scanC ws col = col := by unfold scanC; rw [h]
theorem scan_more {ws : List Int} {col : Nat → Int} {g : Nat} (h : greyAt ws col = some g) : blacks ws col + 1 ≤ blacks ws (scanC ws col) := by
  obtain ⟨hg, h1⟩ := grey_some h
  have hs : scanC ws col = upd (shades col (holdsL ws g)) g 2 := by unfold scanC; rw [h]
  have hn : (g :: (places ws).filter fun p => col p == 2).Nodup := by
    rw [List.nodup_cons]
    refine ⟨fun hm => ?_, (places_nodup ws).filter _⟩
    have := (List.mem_filter.1 hm).2
    rw [h1] at this
    exact absurd this (by decide)
  have := nodup_leT hn (m := (places ws).filter fun p => scanC ws col p == 2) (fun x hx => by
    rw [hs, List.mem_filter]
    rcases List.mem_cons.1 hx with rfl | hx
    · exact ⟨hg, by rw [upd_same]; rfl⟩
    · obtain ⟨hx1, hx2⟩ := List.mem_filter.1 hx
      have hx3 : col x = 2 := by simpa using hx2
      have hne : x ≠ g := by rintro rfl; omega
      refine ⟨hx1, ?_⟩
      rw [upd_ne _ _ hne, shades_at, if_neg (by omega), hx3]; rfl)
  unfold blacks
  simpa using this
theorem scans_end (ws : List Int) (col : Nat → Int) : ∀ n, greyAt ws (scans ws col n) = none ∨ n ≤ blacks ws (scans ws col n)
  | 0 => .inr (Nat.zero_le _)
  | n + 1 => by
    show greyAt ws (scanC ws (scans ws col n)) = none ∨ n + 1 ≤ blacks ws (scanC ws (scans ws col n))
    cases hg : greyAt ws (scans ws col n) with
    | none => left; rw [scan_idle hg]; exact hg
    | some g =>
      right
      have h1 := scan_more hg
      rcases scans_end ws col n with h | h
      · rw [hg] at h; cases h
      · omega
theorem scans_grey {ws : List Int} (col : Nat → Int) {n : Nat} (h : (places ws).length < n) : greyAt ws (scans ws col n) = none := by
  rcases scans_end ws col n with h1 | h1
  · exact h1
  · have := blacks_le ws (scans ws col n); omega
theorem alone_done {ws rs : List Int} {n : Nat} (h : (places ws).length < n) : doneB (playT ws rs (List.replicate n scanOp)) = true := by
  have h1 := scans_grey (startT ws rs).col (ws := ws) h
  unfold playT
  rw [fold_scans]
  unfold doneB
  rw [List.all_eq_true]
  intro p hp
  have h2 : scans ws (startT ws rs).col n p ≠ 1 := grey_none h1 p hp
  show (scans ws (startT ws rs).col n p != 1) = true
  simpa using h2
theorem alone_ws (ws rs : List Int) (n : Nat) : (playT ws rs (List.replicate n scanOp)).ws = ws := by unfold playT; rw [fold_scans]; rfl
theorem alone_rs (ws rs : List Int) (n : Nat) : (playT ws rs (List.replicate n scanOp)).rs = rs := by unfold playT; rw [fold_scans]; rfl
theorem alone_freed {ws rs : List Int} {n : Nat} {f : Nat → Bool} (hok : OkH ws) (hf : ∀ o ∈ rs, fitsB ws o = true) (h : (places ws).length < n) (ht : Tells ws rs f) :
    freedL (playT ws rs (List.replicate n scanOp)) = trialF (places ws) f := by
  obtain ⟨h1, h2, h3⟩ := play_all hok hf (List.replicate n scanOp)
  have hd := alone_done (rs := rs) h
  have hw := alone_ws ws rs n
  have hr := alone_rs ws rs n
  unfold freedL
  rw [if_pos hd]
  unfold whiteL trialF
  rw [hw]
  congr 1
  refine List.filter_congr fun p hp => ?_
  cases hfp : f p with
  | true =>
    have := done_black h1 h2 hd (p := p) (by rw [hw, hr]; exact (ht p).1 hfp)
    rw [this]; rfl
  | false =>
    have := done_white h3 (p := p) (places_mem hp).2.1 (fun h => by rw [(ht p).2 h] at hfp; cases hfp)
    rw [this]; rfl
theorem len_parts (f : Nat → Bool) : ∀ l : List Nat, (l.filter f).length + (l.filter fun p => !f p).length = l.length
  | [] => rfl
  | a :: l => by
    have := len_parts f l
    cases h : f a <;> simp [h] <;> omega
theorem alone_sum {ws rs : List Int} {S : List Nat} {f : Nat → Bool} (hok : OkH ws) (hf : ∀ o ∈ rs, fitsB ws o = true) (hn : S.Nodup) (hS : ∀ p, p ∈ S ↔ Rch ws rs p) (ht : Tells ws rs f) :
    S.length + (trialF (places ws) f).length = (places ws).length := by
  have hp : S.Perm ((places ws).filter f) := by
    refine (List.perm_ext_iff_of_nodup hn ((places_nodup ws).filter f)).2 (fun p => ?_)
    rw [List.mem_filter, ht p, hS p]
    exact ⟨fun h => ⟨h.pl hok hf, h⟩, fun h => h.2⟩
  rw [hp.length_eq]
  unfold trialF
  rw [List.length_map]
  exact len_parts f (places ws)
end Go.Proofs.Ytjpppdacamhhfaa

namespace Go.Proofs.Ytjpppdacamhhfaa
open Go.RowKit
set_option linter.unusedVariables false

/-- The cells of a scan; of n scans. -/
def scanV : List Value := [.int .i64 1, .int .i64 0, .int .i64 0, .int .i64 0, .int .i64 0, .int .i64 0]
def scansV : Nat → List Value
  | 0 => []
  | n + 1 => scansV n ++ scanV
theorem scansV_len : ∀ n, (scansV n).length = n * 6
  | 0 => rfl
  | n + 1 => by show (scansV n ++ scanV).length = _; rw [List.length_append, scansV_len n]; show n * 6 + 6 = _; omega
theorem scansV_get : ∀ (n i j : Nat), i < n → j < 6 → (scansV n)[i * 6 + j]? = some (.int .i64 (nth (opL scanOp) j))
  | 0, i, j, h, _ => absurd h (by omega)
  | n + 1, i, j, h, hj => by
    show (scansV n ++ scanV)[i * 6 + j]? = _
    rcases Nat.lt_or_ge i n with hi | hi
    · rw [List.getElem?_append_left (by rw [scansV_len]; omega)]
      exact scansV_get n i j hi hj
    · obtain rfl : i = n := by omega
      rw [List.getElem?_append_right (by rw [scansV_len]; omega), scansV_len, show i * 6 + j - i * 6 = j by omega]
      obtain rfl | rfl | rfl | rfl | rfl | rfl : j = 0 ∨ j = 1 ∨ j = 2 ∨ j = 3 ∨ j = 4 ∨ j = 5 := by omega
      all_goals rfl
def OwnO (w : World) (base : Nat) (v : Value) (n : Nat) : Prop := w.ownsRow base 100 6 v n (scansV n)
theorem OwnO.nil (w : World) (base : Nat) : OwnO w base (.slice none 0 0) 0 := World.ownsRow_nil w base 100 6
theorem OwnO.alloc {w : World} {base n : Nat} {v : Value} (h : OwnO w base v n) (o : Obj) : OwnO (w.alloc o) base v n := World.ownsRow.alloc h o
theorem OwnO.lt {w : World} {base n : Nat} {v : Value} (h : OwnO w base v n) : ∀ k, v.ownBlock = some k → base ≤ k ∧ k < w.heap.size := World.ownsRow.lt h
theorem OwnO.ops {w : World} {base n : Nat} {v : Value} (h : OwnO w base v n) : ∃ C c, v = .slice C n c ∧ Ops w C (List.replicate n scanOp) := by
  rcases h.2 with ⟨rfl, h0⟩ | ⟨g, cap, cur, rfl, hb, hh, hn, _, hc, ht⟩
  · exact ⟨none, 0, by rw [h0], fun hx => by rw [List.length_replicate] at hx; omega⟩
  · refine ⟨_, cap, rfl, fun hx => ⟨g, 0, rfl, (Array.getElem?_eq_some_iff.1 hh).1, fun i hi j hj => ?_⟩⟩
    rw [List.length_replicate] at hi
    rw [Nat.zero_add, cell_of_row w g (i * 6 + j) cur 100 (0, 0) hh, List.getElem_replicate]
    have : (cur.toList.take (n * 6))[i * 6 + j]? = some (.int .i64 (nth (opL scanOp) j)) := by rw [ht]; exact scansV_get n i j hi hj
    rw [List.getElem?_take, if_pos (by omega)] at this
    simpa using this
theorem info100 : (Try.prog.info? 100).map (fun i => (i.zero, i.size, i.bytes)) = some (some (.agg #[.int .i64 0, .int .i64 0, .int .i64 0, .int .i64 0, .int .i64 0, .int .i64 0]), 6, 48) := by kernel_rfl
theorem scan_news (w : World) : ∀ j u, scanV[j]? = some u → (w.alloc (.cells #[.int .i64 1, .int .i64 0, .int .i64 0, .int .i64 0, .int .i64 0, .int .i64 0] 100)).cell? ((⟨w.heap.size, 0, none⟩ : Addr).add j) = some u := by
  intro j u hj
  have e : ((⟨w.heap.size, 0, none⟩ : Addr).add j) = ⟨w.heap.size, j, none⟩ := by
    unfold Addr.add
    split
    · rename_i h; subst h; rfl
    · simp
  rw [e, cell_new]
  rw [← hj]
  simp [scanV]
theorem wpList_pushO {w : World} {ops : Array Oper} {rest : List Oper} {o : Oper} {a : Act} {Q : Exit → Act → World → Prop} (hgd : o.guard = none) (s x : Operand)
    (ho : o.op = .call { callee := .builtin .append, args := #[s, x], argTypes := #[91, 91] }) (base : Nat) (v : Value) (n : Nat) (hs : a.eval s = v) (hown : OwnO w base v n)
    (ad : Addr) (c : Nat) (hx : a.eval x = .slice (some ad) 1 c) (hc : ∀ j u, scanV[j]? = some u → w.cell? (ad.add j) = some u) (hlen : n ≤ 1000000) (hbase : base ≤ w.heap.size)
    (h : ∀ v' w', OwnO w' base v' (n + 1) → w.grownBy w' v.ownBlock → wpList Try.prog ops Q rest (a.put o.dst v') w') :
    wpList Try.prog ops Q (o :: rest) a w := by
  obtain ⟨i, hi, hz0, hz1, hz2⟩ := info_parts info100
  refine wpList_append_own w hgd s x 91 ho base 100 i (.agg #[.int .i64 0, .int .i64 0, .int .i64 0, .int .i64 0, .int .i64 0, .int .i64 0]) 6 48 Try.underlying91 hi hz0 hz1 hz2 rfl (by decide) v n _ hs hown ad 1 c scanV hx rfl hc ?_ ?_ ?_ hbase ?_
  · intro u hu
    simp only [scanV, List.mem_cons, List.not_mem_nil, or_false] at hu
    rcases hu with rfl | rfl | rfl | rfl | rfl | rfl <;> rfl
  · simp only [maxLen]; omega
  · omega
  · intro v' w' h1 h2 _
    exact h v' w' h1 h2
end Go.Proofs.Ytjpppdacamhhfaa

namespace Go.Proofs.Ytjpppdacamhhfaa
open Go.RowKit
set_option linter.unusedVariables false

theorem placesFrom_three (ws : List Int) : ∀ (f p : Nat), p ≤ ws.length → 3 * (placesFrom ws f p).length + p ≤ ws.length
  | 0, p, h => by simpa [placesFrom] using h
  | f + 1, p, h => by
    unfold placesFrom
    split
    · rename_i hb
      have h1 := nxt_le hb.2
      have h2 := nxt_gt ws p
      have h3 := placesFrom_three ws f (nxt ws p) (by omega)
      simp only [List.length_cons]; omega
    · simp; exact h
theorem places_three {ws : List Int} (hok : OkH ws) : (places ws).length < 667 := by
  have h1 := placesFrom_three ws (ws.length + 1) 2 hok.two
  have h2 := hok.most
  unfold places; omega
/-- As many scans as the law plays. -/
def many : List TOp := List.replicate 667 scanOp
theorem many_len : many.length = 667 := List.length_replicate
theorem many_in : ∀ op ∈ many, OpIn op := fun op h => by
  obtain ⟨-, rfl⟩ := List.mem_replicate.1 h
  exact ⟨⟨by decide, by decide⟩, ⟨by decide, by decide⟩, ⟨by decide, by decide⟩, ⟨by decide, by decide⟩, ⟨by decide, by decide⟩, ⟨by decide, by decide⟩⟩
theorem alone_yes {ws rs : List Int} {A B C : Option Addr} {c d e0 : Nat} {w : World} (hA : Ints w A ws) (hcap : ws.length ≤ c) (hw : I64 ws) (hl : ws.length ≤ 9223372036854775807)
    (hB : Ints w B rs) (hr : I64 rs) (hrl : rs.length ≤ 50000) (hC : Ops w C many) (h0 : (rootsF ws rs).1 = 0) : Calls Try.prog 84 #[.agg #[.slice A ws.length c], .slice B rs.length d, .slice C 667 e0] w (PlayYes (playT ws rs many) w) := by
  have h := play_yes ws rs many A B C c d e0 w hA hcap hw hl hB hr hrl hC (by rw [many_len]; omega) many_in h0
  rwa [many_len] at h
theorem alone_no {ws rs : List Int} {A B C : Option Addr} {c d e0 : Nat} {w : World} (hA : Ints w A ws) (hcap : ws.length ≤ c) (hw : I64 ws) (hl : ws.length ≤ 9223372036854775807)
    (hB : Ints w B rs) (hr : I64 rs) (hrl : rs.length ≤ 50000) (h0 : (rootsF ws rs).1 ≠ 0) : Calls Try.prog 84 #[.agg #[.slice A ws.length c], .slice B rs.length d, .slice C 667 e0] w (PlayNo ws rs w) := by
  have h := play_no ws rs many A B C c d e0 w hA hcap hw hl hB hr hrl h0
  rwa [many_len] at h
theorem fix_roots : rootsF [0, 3, 0, 1, 0, 0, 2, 4, 0] [10] = (0, 0) := by decide +kernel
theorem fix_trial : trialF (places [0, 3, 0, 1, 0, 0, 2, 4, 0]) (rchB [0, 3, 0, 1, 0, 0, 2, 4, 0] [10]) = [4] := by decide +kernel
theorem fix_play : doneB (playT [0, 3, 0, 1, 0, 0, 2, 4, 0] [10] many) = true ∧ freedL (playT [0, 3, 0, 1, 0, 0, 2, 4, 0] [10] many) = [4] := by
  obtain ⟨hok, -, -, hf, -⟩ := rootsF_zero (ws := [0, 3, 0, 1, 0, 0, 2, 4, 0]) (rs := [10]) (by rw [fix_roots])
  refine ⟨alone_done (places_three hok), ?_⟩
  have h := alone_freed hok hf (places_three hok) (f := rchB [0, 3, 0, 1, 0, 0, 2, 4, 0] [10]) (fun p => rchB_iff hok hf p)
  rw [fix_trial] at h
  exact h
theorem i64_list {l : List Int} (h : ∀ x ∈ l, -9223372036854775808 ≤ x ∧ x ≤ 9223372036854775807) : I64 l := fun j => by
  by_cases hj : j < l.length
  · rw [nth_eq hj]; exact h _ (List.getElem_mem hj)
  · unfold nth; rw [List.getD_eq_getElem?_getD, List.getElem?_eq_none (by omega)]; simp
/-- A Play and a fault, laid. -/
theorem play_layA (w : World) (a b c d e f g : Value) : Below w.heap.size w ((w.alloc (.cells #[a, b, c, d, e] 93)).alloc (.cells #[f, g] 36)) ∧
    Blk ((w.alloc (.cells #[a, b, c, d, e] 93)).alloc (.cells #[f, g] 36)) w.heap.size 93 #[a, b, c, d, e] ∧ Blk ((w.alloc (.cells #[a, b, c, d, e] 93)).alloc (.cells #[f, g] 36)) (w.heap.size + 1) 36 #[f, g] := by
  refine ⟨((Below.refl _ _).alloc (Nat.le_refl _) _).alloc (by simp) _, (Blk.new w 93 #[a, b, c, d, e]).alloc _, ?_⟩
  have := Blk.new (w.alloc (.cells #[a, b, c, d, e] 93)) 36 #[f, g]
  rw [World.size_alloc] at this; exact this
/-- A Play and a fault, stored. -/
theorem seven_stores {w w3 : World} {n R F : Nat} {t u : TypeId} {a0 b0 c0 d0 e0 f0 g0 : Value} (hb : Below n w w3) (hR : Blk w3 R t #[a0, b0, c0, d0, e0]) (hF : Blk w3 F u #[f0, g0]) (h1 : n ≤ R) (h2 : n ≤ F) (hne : R ≠ F) (a b c d e f g : Value) :
    Below n w (((((((w3.setCell ⟨R, 0, none⟩ a).setCell ⟨R, 1, none⟩ b).setCell ⟨R, 2, none⟩ c).setCell ⟨R, 3, none⟩ d).setCell ⟨R, 4, none⟩ e).setCell ⟨F, 0, none⟩ f).setCell ⟨F, 1, none⟩ g) ∧
      Blk (((((((w3.setCell ⟨R, 0, none⟩ a).setCell ⟨R, 1, none⟩ b).setCell ⟨R, 2, none⟩ c).setCell ⟨R, 3, none⟩ d).setCell ⟨R, 4, none⟩ e).setCell ⟨F, 0, none⟩ f).setCell ⟨F, 1, none⟩ g) R t #[a, b, c, d, e] ∧
      Blk (((((((w3.setCell ⟨R, 0, none⟩ a).setCell ⟨R, 1, none⟩ b).setCell ⟨R, 2, none⟩ c).setCell ⟨R, 3, none⟩ d).setCell ⟨R, 4, none⟩ e).setCell ⟨F, 0, none⟩ f).setCell ⟨F, 1, none⟩ g) F u #[f, g] ∧
      (∀ k, k ≠ R → k ≠ F → (((((((w3.setCell ⟨R, 0, none⟩ a).setCell ⟨R, 1, none⟩ b).setCell ⟨R, 2, none⟩ c).setCell ⟨R, 3, none⟩ d).setCell ⟨R, 4, none⟩ e).setCell ⟨F, 0, none⟩ f).setCell ⟨F, 1, none⟩ g).heap[k]? = w3.heap[k]?) ∧
      w3.heap.size ≤ (((((((w3.setCell ⟨R, 0, none⟩ a).setCell ⟨R, 1, none⟩ b).setCell ⟨R, 2, none⟩ c).setCell ⟨R, 3, none⟩ d).setCell ⟨R, 4, none⟩ e).setCell ⟨F, 0, none⟩ f).setCell ⟨F, 1, none⟩ g).heap.size :=
  ⟨((below_set5 hb h1 a b c d e).setCell (p := ⟨F, 0, none⟩) h2 f).setCell (p := ⟨F, 1, none⟩) h2 g, ((blk_set5 hR a b c d e).far (p := ⟨F, 0, none⟩) hne f).far (p := ⟨F, 1, none⟩) hne g, ((blk_far5 hF (Ne.symm hne) a b c d e).set_ 0 f).set_ 1 g,
    fun k hR hF => (Below.heap_setCell _ ⟨F, 1, none⟩ _ _ hF).trans ((Below.heap_setCell _ ⟨F, 0, none⟩ _ _ hF).trans ((Below.heap_setCell _ ⟨R, 4, none⟩ _ _ hR).trans ((Below.heap_setCell _ ⟨R, 3, none⟩ _ _ hR).trans ((Below.heap_setCell _ ⟨R, 2, none⟩ _ _ hR).trans ((Below.heap_setCell _ ⟨R, 1, none⟩ _ _ hR).trans (Below.heap_setCell _ ⟨R, 0, none⟩ _ _ hR)))))), by simp⟩
/-- What is not nought lies not where noughts lie. -/
theorem row_ne_nought {w : World} {b n F : Nat} {t : TypeId} {x : Int} (h : w.cell? ⟨b, n, none⟩ = some (.int .i64 x)) (hx : x ≠ 0) (hF : Blk w F t #[.int .i64 0, .int .i64 ((0 : Nat) : Int)]) : b ≠ F := by
  rintro rfl
  rw [hF.cell] at h
  match n, h with
  | 0, h => simp at h; exact hx h.symm
  | 1, h => simp at h; exact hx h.symm
  | n + 2, h => simp at h
theorem trial_pos {ws : List Int} {f : Nat → Bool} {x : Int} (h : x ∈ trialF (places ws) f) : x ≠ 0 := by
  unfold trialF at h
  obtain ⟨p, hp, rfl⟩ := List.mem_map.1 h
  have := (places_mem (List.mem_filter.1 hp).1).1
  omega
theorem fix_worldA (v : World) : Ints ((v.alloc (.cells #[.int .i64 0, .int .i64 3, .int .i64 0, .int .i64 1, .int .i64 0, .int .i64 0, .int .i64 2, .int .i64 4, .int .i64 0] 3)).alloc (.cells #[.int .i64 10] 3)) (some ⟨v.heap.size, 0, none⟩) [0, 3, 0, 1, 0, 0, 2, 4, 0] ∧ Ints ((v.alloc (.cells #[.int .i64 0, .int .i64 3, .int .i64 0, .int .i64 1, .int .i64 0, .int .i64 0, .int .i64 2, .int .i64 4, .int .i64 0] 3)).alloc (.cells #[.int .i64 10] 3)) (some ⟨v.heap.size + 1, 0, none⟩) [10] ∧ Below v.heap.size v ((v.alloc (.cells #[.int .i64 0, .int .i64 3, .int .i64 0, .int .i64 1, .int .i64 0, .int .i64 0, .int .i64 2, .int .i64 4, .int .i64 0] 3)).alloc (.cells #[.int .i64 10] 3)) := by
  refine ⟨(ints_new v [0, 3, 0, 1, 0, 0, 2, 4, 0]).alloc _, ?_, ((Below.refl _ _).alloc (Nat.le_refl _) _).alloc (by simp) _⟩
  have h := ints_new (v.alloc (.cells #[.int .i64 0, .int .i64 3, .int .i64 0, .int .i64 1, .int .i64 0, .int .i64 0, .int .i64 2, .int .i64 4, .int .i64 0] 3)) [10]
  simp only [World.size_alloc] at h
  exact h
theorem reachL_len (S : List Nat) : (reachL S).length = S.length := by unfold reachL; rw [List.length_map, sortedS_len]
theorem alone_cols (ws rs : List Int) : (colsL (playT ws rs many)).length = (places ws).length := by unfold colsL; rw [List.length_map]; exact congrArg (fun x => (places x).length) (alone_ws ws rs 667)
/-- A call, whatever is known of its world. -/
theorem open_calls {f : FuncId} {args : Array Value} {W : World} {Q : Ending → World → Prop} (P : World → Prop) (hp : P W) (h : ∀ W', P W' → Calls Try.prog f args W' Q) : Calls Try.prog f args W Q := h W hp
set_option maxRecDepth 100000 in
set_option maxHeartbeats 4000000 in
theorem triAlone_walk (ws : List Int) (A : Option Addr) (c : Nat) (rs : List Int) (B : Option Addr) (d : Nat) (w : World)
    (hA : Ints w A ws) (hcap : ws.length ≤ c) (hw : I64 ws) (hl : ws.length ≤ 9223372036854775807) (hB : Ints w B rs) (hcapB : rs.length ≤ d) (hr : I64 rs) (hrl : rs.length ≤ 9223372036854775807) :
    Calls Try.prog 28 #[.agg #[.slice A ws.length c], .slice B rs.length d] w fun e w' => e = .returned (.bool true) ∧ Below w.heap.size w w' := by
  have hx0 : Below w.heap.size w (w.alloc (.cells #[.slice A ws.length c] 33)) := (Below.refl _ _).alloc (Nat.le_refl _) _
  have HX0 := Lib.hid hx0
  have HA := Lib.hid (hA.below hx0); have HB := Lib.hid (hB.below hx0)
  have HA0 := Lib.hid hA; have HB0 := Lib.hid hB
  have HW := Lib.hid hw; have HRI := Lib.hid hr
  have HH := Lib.hid (Blk.new w 33 #[.slice A ws.length c])
  clear hx0 hA hB hw hr
  have hv := vastk_any ws rs [] A B none c d 0 (w.alloc (.cells #[.slice A ws.length c] 33))
  have HV := Lib.hid hv; clear hv
  by_cases hbig : 5000 < ws.length ∨ 5000 < rs.length
  · have hvv : (decide (5000 < ws.length) || decide (5000 < rs.length) || decide (5000 < ([] : List Int).length)) = true := by
      simp only [Bool.or_eq_true, decide_eq_true_eq]; omega
    rw [hvv] at HV
    clear hbig hvv
    go_enter Try.func28, Try.ntmps28
    go_wp2_with (go_at_call 69; refine HV.out.mono ?_; rintro e w1 ⟨rfl, hb1⟩; have HB1 := Lib.hid hb1; clear hb1)
    go_ret
    exact ⟨rfl, HX0.out.trans (HB1.out.mono (by simp))⟩
  have s1 : ws.length ≤ 5000 := by omega
  have s2 : rs.length ≤ 5000 := by omega
  have hvv : (decide (5000 < ws.length) || decide (5000 < rs.length) || decide (5000 < ([] : List Int).length)) = false := by
    simp only [Bool.or_eq_false_iff, decide_eq_false_iff_not, List.length_nil]; omega
  rw [hvv] at HV
  clear hvv hbig
  go_enter Try.func28, Try.ntmps28
  go_wp2_with fail
  refine HV.out.mono ?_
  rintro e w1 ⟨rfl, hb1⟩
  have HX1 := Lib.hid (HX0.out.trans (hb1.mono (by simp)))
  have HA1 := Lib.hid (HA.out.below hb1); have HB1 := Lib.hid (HB.out.below hb1)
  have HH1 := Lib.hid (HH.out.below hb1 HH.out.lt)
  clear hb1 HV HX0 HA HB HH
  go_wp2_with fail
  go_loopw [5, 6] (fun v i wr => ∃ k : Nat, i = .int .i64 (k : Int) ∧ k ≤ 667 ∧ OwnO wr w1.heap.size v k ∧ Below w1.heap.size w1 wr) (fun _ i _ => 667 - (intOf i).toNat)
  case atStart => exact ⟨0, rfl, by omega, OwnO.nil _ _, Below.refl _ _⟩
  case round =>
    obtain ⟨k, rfl, hk, how, hbw⟩ := hrel
    have HOW := Lib.hid how; have HBW := Lib.hid hbw
    clear how hbw
    by_cases hkl : k < 667
    · have HOA := Lib.hid (HOW.out.alloc (.cells #[.int .i64 1, .int .i64 0, .int .i64 0, .int .i64 0, .int .i64 0, .int .i64 0] 100))
      have hsz : w1.heap.size ≤ (wr.alloc (.cells #[.int .i64 1, .int .i64 0, .int .i64 0, .int .i64 0, .int .i64 0, .int .i64 0] 100)).heap.size := by rw [World.size_alloc]; have := HBW.out.size; omega
      have HBA : Hid (Below w1.heap.size w1 (wr.alloc (.cells #[.int .i64 1, .int .i64 0, .int .i64 0, .int .i64 0, .int .i64 0, .int .i64 0] 100))) := HBW.out.alloc HBW.out.size _
      have HNW := Lib.hid (scan_news wr)
      go_wp2_with (at_builtin; refine wpList_pushO rfl _ _ rfl w1.heap.size _ k rfl HOA.out ⟨wr.heap.size, 0, none⟩ 1 rfl HNW.out (by omega) hsz ?_; intro v9 w9 hown9 hgr9; have HOW9 := Lib.hid hown9; have HB9 := Lib.hid (HBA.out.grown hgr9 hsz (fun q hq => (HOA.out.lt q hq).1)); clear hown9 hgr9)
      go_roundw
      case rel => exact ⟨k + 1, by go_num, by omega, HOW9.out, HB9.out⟩
      case measure => simp [intOf]; omega
    · obtain rfl : k = 667 := by omega
      obtain ⟨C, ec, rfl, hC⟩ := HOW.out.ops
      have HC : Hid (Ops wr C many) := hC
      have HXW := Lib.hid (HX1.out.trans (HBW.out.mono HX1.out.size))
      have HAW := Lib.hid (HA1.out.below HBW.out); have HBW2 := Lib.hid (HB1.out.below HBW.out); have HHW := Lib.hid (HH1.out.below HBW.out HH1.out.lt)
      clear hC HX1 HA1 HB1 HH1 HOW HBW
      go_wp2_with fail
      obtain ⟨i1, i2, hx2⟩ := fix_worldA wr
      have HX2 := Lib.hid (HXW.out.trans (hx2.mono HXW.out.size))
      have HA2 := Lib.hid (HAW.out.below hx2); have HB2 := Lib.hid (HBW2.out.below hx2); have HH2 := Lib.hid (HHW.out.below hx2 HHW.out.lt); have HC2 := Lib.hid (HC.out.below hx2)
      clear hx2 HXW HAW HBW2 HHW HC
      generalize ((wr.alloc (.cells #[.int .i64 0, .int .i64 3, .int .i64 0, .int .i64 1, .int .i64 0, .int .i64 0, .int .i64 2, .int .i64 4, .int .i64 0] 3)).alloc (.cells #[.int .i64 10] 3)) = w2 at *
      refine (alone_yes i1 (by simp) (i64_list (by decide)) (by simp) i2 (i64_list (by decide)) (by simp) HC2.out (by rw [fix_roots])).mono ?_
      obtain ⟨hd0, hf0⟩ := fix_play
      generalize playT [0, 3, 0, 1, 0, 0, 2, 4, 0] [10] many = S0 at *
      rintro e w3 ⟨hb3, A3, ca, B3, cb, C3, cc, J3, ce, rfl, -, -, -, -, he3⟩
      rw [hf0] at he3 ⊢
      rw [hd0]
      obtain ⟨b3, o3, rfl, hlt3, hr3⟩ := he3 (by simp)
      have hc3 := hr3 0 (by simp)
      have HX3 := Lib.hid (HX2.out.trans (hb3.mono HX2.out.size))
      have HA3 := Lib.hid (HA2.out.below hb3); have HB3 := Lib.hid (HB2.out.below hb3); have HH3 := Lib.hid (HH2.out.below hb3 HH2.out.lt); have HC3 := Lib.hid (HC2.out.below hb3)
      clear hb3 he3 hr3 i1 i2 HX2 HA2 HB2 HH2 HC2 hd0 hf0
      simp only [nth, List.getD_cons_zero, Nat.add_zero] at hc3
      generalize S0.ws.length = n1 at *
      generalize S0.rs.length = n2 at *
      generalize (colsL S0).length = n3 at *
      obtain ⟨hx4, hp4, hk4⟩ := play_layA w3 (.slice A3 n1 ca) (.slice B3 n2 cb) (.slice C3 n3 cc) (.bool true) (.slice (some ⟨b3, o3, none⟩) 1 ce) (.int .i64 0) (.int .i64 ((0 : Nat) : Int))
      have HX4 := Lib.hid (HX3.out.trans (hx4.mono HX3.out.size))
      have HA4 := Lib.hid (HA3.out.below hx4); have HB4 := Lib.hid (HB3.out.below hx4); have HH4 := Lib.hid (HH3.out.below hx4 HH3.out.lt); have HC4 := Lib.hid (HC3.out.below hx4)
      have HP4 := Lib.hid hp4; have HK4 := Lib.hid hk4
      have hwk : w.heap.size < w3.heap.size := HH3.out.lt
      obtain ⟨x1, x2, x3⟩ := HH3.out.f1
      have hww : w.heap.size ≤ w3.heap.size := HX3.out.size
      clear hx4 hp4 hk4 HX3 HA3 HB3 HC3
      unfold playV fltV
      dsimp only [List.length_cons, List.length_nil, Nat.reduceAdd]
      go_wp2_with fail
      clear x1 x2 x3 hc3
      generalize ((w3.alloc (.cells #[.slice A3 n1 ca, .slice B3 n2 cb, .slice C3 n3 cc, .bool true, .slice (some ⟨b3, o3, none⟩) 1 ce] 93)).alloc (.cells #[.int .i64 0, .int .i64 ((0 : Nat) : Int)] 36)) = w4 at *
      generalize w3.heap.size = K at *
      clear HH3
      by_cases h0 : (rootsF ws rs).1 = 0
      case neg =>
        refine (alone_no HA4.out hcap HW.out hl HB4.out HRI.out (by omega) h0).mono ?_
        rintro e w5 ⟨hb5, rfl⟩
        have HX5 := Lib.hid (HX4.out.trans (hb5.mono HX4.out.size))
        have HH5 := Lib.hid (HH4.out.below hb5 HH4.out.lt); have HP5 := Lib.hid (HP4.out.below hb5 HP4.out.lt); have HK5 := Lib.hid (HK4.out.below hb5 HK4.out.lt)
        obtain ⟨x1, x2, x3⟩ := HH5.out.f1
        obtain ⟨p1, p2, p3, p4, p5, p6, p7, p8, p9, p10, p11⟩ := HP5.out.f5
        obtain ⟨k1, k2, k3, k4, k5⟩ := HK5.out.f2
        have hne : ((rootsF ws rs).1 == 0) = false := by simpa using h0
        generalize hf : rootsF ws rs = f at *
        have HF := Lib.hid hf
        have hnb : (f.1 != 0) = true := by simp only [bne, hne, Bool.not_false]
        have hsv := seven_stores HX5.out HP5.out HK5.out (show w.heap.size ≤ K by omega) (show w.heap.size ≤ K + 1 by omega) (show K ≠ K + 1 by omega) (.slice none 0 0) (.slice none 0 0) (.slice none 0 0) (.bool false) (.slice none 0 0) (.int .i64 f.1) (.int .i64 (f.2 : Int))
        have HSV := Lib.hid hsv
        clear hsv hf h0 hb5
        unfold playV fltV
        go_wp2_with fail
        have hsv := HSV.out
        refine open_calls (fun W => Below w.heap.size w W ∧ Blk W K 93 #[.slice none 0 0, .slice none 0 0, .slice none 0 0, .bool false, .slice none 0 0] ∧ Blk W (K + 1) 36 #[.int .i64 f.1, .int .i64 (f.2 : Int)] ∧ (∀ k, k ≠ K → k ≠ K + 1 → W.heap[k]? = w5.heap[k]?) ∧ w5.heap.size ≤ W.heap.size) hsv ?_
        clear hsv HSV x1 x2 x3 p1 p2 p3 p4 p5 p6 p7 p8 p9 p10 p11 k1 k2 k3 k4 k5
        rintro w6 ⟨hb6, hp6, hk6, hkW, hsW⟩
        have HX6 := Lib.hid hb6; have HP6 := Lib.hid hp6; have HK6 := Lib.hid hk6
        have HH6 : Hid (Blk w6 w.heap.size 33 #[.slice A ws.length c]) := (hkW w.heap.size (by omega) (by omega)).trans HH5.out
        clear hb6 hp6 hk6 hkW hsW HX5 HH5 HP5 HK5 HX4 HH4 HP4 HK4 HA4 HB4 HC4
        refine (reach_any ws rs A B c d w6 (HA0.out.below HX6.out) hcap HW.out hl (HB0.out.below HX6.out) HRI.out (by omega)).mono ?_
        rintro e w7 ⟨X, hX, hb7, A7, c7, rfl, -⟩
        clear hX
        rw [HF.out]
        have hx8 : Below w7.heap.size w7 (w7.alloc (.cells #[.int .i64 f.1, .int .i64 (f.2 : Int)] 36)) := (Below.refl _ _).alloc (Nat.le_refl _) _
        have hb8 := hb7.trans (hx8.mono hb7.size)
        have HX8 := Lib.hid (HX6.out.trans (hb8.mono HX6.out.size))
        have HP8 := Lib.hid (HP6.out.below hb8 HP6.out.lt); have HK8 := Lib.hid (HK6.out.below hb8 HK6.out.lt)
        have HG8 := Lib.hid (Blk.new w7 36 #[.int .i64 f.1, .int .i64 (f.2 : Int)])
        have HH8 := Lib.hid (HH6.out.below hb8 HH6.out.lt)
        obtain ⟨x1, x2, x3⟩ := (HH6.out.below hb7 HH6.out.lt).f1
        clear hx8 hb7 hb8
        unfold fltV
        go_wp2_with fail
        clear x1 x2 x3
        generalize (w7.alloc (.cells #[.int .i64 f.1, .int .i64 (f.2 : Int)] 36)) = w8 at *
        generalize w7.heap.size = K7 at *
        refine (trial_any ws rs A B c d w8 (HA0.out.below HX8.out) hcap HW.out hl (HB0.out.below HX8.out) HRI.out (by omega)).mono ?_
        rintro e w9 ⟨Y, hY, hb9, A9, c9, rfl, -⟩
        clear hY
        rw [HF.out]
        have hx10 : Below w9.heap.size w9 (w9.alloc (.cells #[.int .i64 f.1, .int .i64 (f.2 : Int)] 36)) := (Below.refl _ _).alloc (Nat.le_refl _) _
        have HX10 := Lib.hid (HX8.out.trans ((hb9.trans (hx10.mono hb9.size)).mono HX8.out.size))
        obtain ⟨p1, p2, p3, p4, p5, -, -, -, -, -, p11⟩ := (HP8.out.below hb9 HP8.out.lt).f5
        obtain ⟨k1, k2, -, -, k5⟩ := (HK8.out.below hb9 HK8.out.lt).f2
        obtain ⟨g1, g2, -, -, g5⟩ := (HG8.out.below hb9 HG8.out.lt).f2
        clear hx10 hb9
        unfold fltV
        go_wp2_with fail
        go_ret
        exact ⟨rfl, HX10.out⟩
      case pos =>
        have hrz := rootsF_zero h0
        obtain ⟨hokh, -, -, hfit, hz⟩ := hrz
        have HOK := Lib.hid hokh; have HFIT := Lib.hid hfit; have HZ := Lib.hid hz
        have hpl := places_three hokh
        have hd0 := alone_done (rs := rs) hpl
        have HFR := Lib.hid (fun (f : Nat → Bool) (h : Tells ws rs f) => alone_freed hokh hfit hpl h)
        have hcl := alone_cols ws rs
        refine (alone_yes HA4.out hcap HW.out hl HB4.out HRI.out (by omega) HC4.out h0).mono ?_
        have hd0 : doneB (playT ws rs many) = true := hd0
        have HFR : Hid (∀ f : Nat → Bool, Tells ws rs f → freedL (playT ws rs many) = trialF (places ws) f) := HFR.out
        generalize playT ws rs many = S at *
        rintro e w5 ⟨hb5, A5, ca5, B5, cb5, C5, cc5, J5, ce5, rfl, -, -, -, -, he5⟩
        rw [hd0, hcl]
        have HE5 := Lib.hid he5
        have HX5 := Lib.hid (HX4.out.trans (hb5.mono HX4.out.size))
        have HH5 := Lib.hid (HH4.out.below hb5 HH4.out.lt); have HP5 := Lib.hid (HP4.out.below hb5 HP4.out.lt); have HK5 := Lib.hid (HK4.out.below hb5 HK4.out.lt)
        obtain ⟨x1, x2, x3⟩ := HH5.out.f1
        obtain ⟨p1, p2, p3, p4, p5, p6, p7, p8, p9, p10, p11⟩ := HP5.out.f5
        obtain ⟨k1, k2, k3, k4, k5⟩ := HK5.out.f2
        have hsv := seven_stores HX5.out HP5.out HK5.out (show w.heap.size ≤ K by omega) (show w.heap.size ≤ K + 1 by omega) (show K ≠ K + 1 by omega) (.slice A5 S.ws.length ca5) (.slice B5 S.rs.length cb5) (.slice C5 (places ws).length cc5) (.bool true) (.slice J5 (freedL S).length ce5) (.int .i64 0) (.int .i64 ((0 : Nat) : Int))
        have HSV := Lib.hid hsv
        clear hsv h0 hb5 he5 hd0 hcl hokh hfit hz
        unfold playV fltV
        go_wp2_with fail
        have hsv := HSV.out
        refine open_calls (fun W => Below w.heap.size w W ∧ Blk W K 93 #[.slice A5 S.ws.length ca5, .slice B5 S.rs.length cb5, .slice C5 (places ws).length cc5, .bool true, .slice J5 (freedL S).length ce5] ∧ Blk W (K + 1) 36 #[.int .i64 0, .int .i64 ((0 : Nat) : Int)] ∧ (∀ k, k ≠ K → k ≠ K + 1 → W.heap[k]? = w5.heap[k]?) ∧ w5.heap.size ≤ W.heap.size) hsv ?_
        clear hsv HSV x1 x2 x3 p1 p2 p3 p4 p5 p6 p7 p8 p9 p10 p11 k1 k2 k3 k4 k5
        rintro w6 ⟨hb6, hp6, hk6, hkW, hsW⟩
        have HX6 := Lib.hid hb6; have HP6 := Lib.hid hp6; have HK6 := Lib.hid hk6
        have HH6 : Hid (Blk w6 w.heap.size 33 #[.slice A ws.length c]) := (hkW w.heap.size (by omega) (by omega)).trans HH5.out
        have HE6 : Hid (∀ f : Nat → Bool, Tells ws rs f → Ints w6 J5 (freedL S)) := fun f ht hx => by
          obtain ⟨b, o, e, hlt, hr⟩ := HE5.out hx
          have n1 : b ≠ K := row_ne_blk5 (hr 0 hx) HP5.out
          have n2 : b ≠ K + 1 := row_ne_nought (hr 0 hx) (trial_pos (ws := ws) (f := f) (by rw [nth_eq hx, ← HFR.out f ht]; exact List.getElem_mem _)) HK5.out
          exact ⟨b, o, e, Nat.lt_of_lt_of_le hlt hsW, fun j hj => (World.cell?_of_block (a := ⟨b, o + j, none⟩) (hkW b n1 n2)).trans (hr j hj)⟩
        clear hb6 hp6 hk6 hkW hsW HX5 HH5 HP5 HK5 HX4 HH4 HP4 HK4 HA4 HB4 HC4 HE5
        refine (reach_any ws rs A B c d w6 (HA0.out.below HX6.out) hcap HW.out hl (HB0.out.below HX6.out) HRI.out (by omega)).mono ?_
        rintro e w7 ⟨X, hX, hb7, A7, c7, rfl, -⟩
        obtain ⟨-, S2, hnd, hS2, rfl⟩ := hX.resolve_left (fun h => h.1 (by rw [HZ.out]))
        have HND := Lib.hid hnd; have HS2 := Lib.hid hS2
        clear hX hnd hS2
        rw [HZ.out, reachL_len]
        have hx8 : Below w7.heap.size w7 (w7.alloc (.cells #[.int .i64 0, .int .i64 ((0 : Nat) : Int)] 36)) := (Below.refl _ _).alloc (Nat.le_refl _) _
        have hb8 := hb7.trans (hx8.mono hb7.size)
        have HX8 := Lib.hid (HX6.out.trans (hb8.mono HX6.out.size))
        have HP8 := Lib.hid (HP6.out.below hb8 HP6.out.lt); have HK8 := Lib.hid (HK6.out.below hb8 HK6.out.lt)
        have HG8 := Lib.hid (Blk.new w7 36 #[.int .i64 0, .int .i64 ((0 : Nat) : Int)])
        have HH8 := Lib.hid (HH6.out.below hb8 HH6.out.lt)
        have HE8 := Lib.hid (fun (f : Nat → Bool) (h : Tells ws rs f) => (HE6.out f h).below hb8)
        obtain ⟨x1, x2, x3⟩ := (HH6.out.below hb7 HH6.out.lt).f1
        clear hx8 hb7 hb8
        dsimp only
        unfold fltV
        go_wp2_with fail
        clear x1 x2 x3
        generalize (w7.alloc (.cells #[.int .i64 0, .int .i64 ((0 : Nat) : Int)] 36)) = w8 at *
        generalize w7.heap.size = K7 at *
        refine (trial_any ws rs A B c d w8 (HA0.out.below HX8.out) hcap HW.out hl (HB0.out.below HX8.out) HRI.out (by omega)).mono ?_
        rintro e w9 ⟨Y, hY, hb9, A9, c9, rfl, ho9⟩
        obtain ⟨-, f, hff, rfl⟩ := hY.resolve_left (fun h => h.1 (by rw [HZ.out]))
        have hsum := alone_sum HOK.out HFIT.out HND.out HS2.out hff
        have HFE := Lib.hid (HFR.out f hff)
        have hyl : (trialF (places ws) f).length ≤ 1000000000 := by have := trial_len (places ws) f; omega
        have hi9 : Ints w9 A9 (trialF (places ws) f) := (own_ints' ho9).1
        have he9 := (HE8.out f hff).below hb9
        rw [HFE.out] at he9 HP8
        generalize trialF (places ws) f = Y at *
        rw [HZ.out]
        have hx10 : Below w9.heap.size w9 (w9.alloc (.cells #[.int .i64 0, .int .i64 ((0 : Nat) : Int)] 36)) := (Below.refl _ _).alloc (Nat.le_refl _) _
        have hb10 := hb9.trans (hx10.mono hb9.size)
        have HX10 := Lib.hid (HX8.out.trans (hb10.mono HX8.out.size))
        have HP10 := Lib.hid (HP8.out.below hb10 HP8.out.lt)
        have HI10 := Lib.hid (hi9.below hx10); have HE10 := Lib.hid (he9.below hx10)
        obtain ⟨p1, p2, p3, p4, p5, -, -, -, -, -, p11⟩ := (HP8.out.below hb9 HP8.out.lt).f5
        obtain ⟨k1, k2, -, -, k5⟩ := (HK8.out.below hb9 HK8.out.lt).f2
        obtain ⟨g1, g2, -, -, g5⟩ := (HG8.out.below hb9 HG8.out.lt).f2
        have HSUM := Lib.hid hsum
        clear hx10 hb9 hb10 hi9 he9 ho9 hY hff hsum HFR HE6 HE8
        dsimp only
        unfold fltV
        go_wp2_with fail
        clear p1 p2 p3 p4 p5 p11 k1 k2 k5 g1 g2 g5
        generalize (w9.alloc (.cells #[.int .i64 0, .int .i64 ((0 : Nat) : Int)] 36)) = w10 at *
        have h58 := kints_any Y Y J5 A9 ce5 c9 w10 HE10.out HI10.out hyl
        rw [eqB_self] at h58
        refine h58.mono ?_
        rintro e w11 ⟨rfl, n, rfl⟩
        have hb11 := belowN w10.heap.size w10 n
        have HX11 := Lib.hid (HX10.out.trans (hb11.mono HX10.out.size))
        obtain ⟨p1, p2, p3, p4, p5, -, -, -, -, -, p11⟩ := HP10.out.f5
        have hsum : ((S2.length : Int) + (Y.length : Int) == ((places ws).length : Int)) = true := by have := HSUM.out; simp; omega
        have ho1 : IntKind.i64.wrap ((S2.length : Int) + (Y.length : Int)) = (S2.length : Int) + (Y.length : Int) := IntWalk.i64_in _ (by have := HSUM.out; omega)
        clear h58 hb11
        go_wp2_with fail
        go_ret
        exact ⟨rfl, HX11.out⟩
end Go.Proofs.Ytjpppdacamhhfaa
