/- Plain laws of colours: in the end what is freed is white; numbers stay of 64 bits. No program in sight. Conditions: none. -/
import Derived.Test.YtjpppdacamhhfaaTrSpec2
import Derived.Test.YtjpppdacamhhfaaTrD
namespace Go.Proofs.Ytjpppdacamhhfaa
open Go.RowKit
set_option linter.unusedVariables false

/-- What a list of references marks. -/
def marked (l : List Int) : Nat → Bool := fun p => l.any fun o => pcl o == p
theorem marked_nil : marked [] = fun _ => false := rfl
theorem marked_snoc (l : List Int) (o : Int) : marked (l ++ [o]) = put1 (marked l) (pcl o) := by
  funext p
  unfold marked put1
  rw [List.any_append]
  by_cases h : p = pcl o
  · subst h; simp
  · rw [if_neg h]
    have : (pcl o == p) = false := by simpa using fun e : pcl o = p => h e.symm
    simp [this]
theorem freed_mem {S : TSt} {o : Int} (h : o ∈ freedL S) : doneB S = true ∧ ∃ p ∈ places S.ws, S.col p = 0 ∧ o = 2 * (p : Int) := by
  unfold freedL whiteL at h
  split at h
  · rename_i hd
    obtain ⟨p, hp, rfl⟩ := List.mem_map.1 h
    obtain ⟨h1, h2⟩ := List.mem_filter.1 hp
    exact ⟨hd, p, h1, by simpa using h2, rfl⟩
  · exact absurd h List.not_mem_nil
theorem freed_marked {S : TSt} (hd : doneB S = true) (p : Nat) : marked (freedL S) p = true ↔ p ∈ places S.ws ∧ S.col p = 0 := by
  unfold marked
  rw [List.any_eq_true]
  constructor
  · rintro ⟨o, ho, he⟩
    obtain ⟨-, q, hq, hc, rfl⟩ := freed_mem ho
    rw [pcl_two] at he
    have : q = p := by simpa using he
    subst this
    exact ⟨hq, hc⟩
  · rintro ⟨hp, hc⟩
    refine ⟨2 * (p : Int), ?_, by rw [pcl_two]; simp⟩
    unfold freedL whiteL
    rw [if_pos hd]
    exact List.mem_map.2 ⟨p, List.mem_filter.2 ⟨hp, by rw [hc]; rfl⟩, rfl⟩
theorem freed_th {S : TSt} (hs : TOk S) {o : Int} (h : o ∈ freedL S) : isTh S.ws o = true := by
  obtain ⟨-, p, hp, -, rfl⟩ := freed_mem h
  exact isTh_of hp hs.ok.most
theorem freed_not {S : TSt} (h : doneB S = false) : freedL S = [] := by unfold freedL; rw [if_neg (by rw [h]; decide)]
/-- Nothing that is reached is freed. -/
theorem holds_black {S : TSt} (hs : TOk S) (hi : InvA S) (hd : doneB S = true) {f : Nat → Bool} (hf : Tells S.ws S.rs f) {p : Nat} (h : f p = true) : marked (freedL S) p = false := by
  cases hm : marked (freedL S) p with
  | false => rfl
  | true =>
    have h1 := ((freed_marked hd p).1 hm).2
    have h2 := done_black hs hi hd ((hf p).1 h)
    omega
theorem holds_white {ws rs : List Int} {S : TSt} (hB : InvB ws rs S) (hd : doneB S = true) {g : Nat → Bool} (hg : Tells ws rs g) {p : Nat} (hp : p ∈ places S.ws) (hl : p < ws.length) (h : g p = false) : marked (freedL S) p = true :=
  (freed_marked hd p).2 ⟨hp, done_white hB hl (fun hr => by rw [(hg p).2 hr] at h; cases h)⟩

theorem doT_i64 {s : TSt} (hs : TOk s) (h1 : I64 s.ws) (h2 : I64 s.rs) {op : TOp} (ho : OpIn op) : I64 (doT s op).ws ∧ I64 (doT s op).rs := by
  rcases doT_cases s op with e | ⟨-, e⟩ | ⟨-, h, e⟩ | ⟨-, h, e⟩ | ⟨-, h, e⟩ <;> rw [e]
  · exact ⟨h1, h2⟩
  · exact ⟨h1, h2⟩
  · exact ⟨putW_i64 h1 ho.w, h2⟩
  · refine ⟨newW_i64g hs.ok h1 h, fun j => ?_⟩
    show -9223372036854775808 ≤ nth (s.rs ++ [2 * (s.ws.length : Int)]) j ∧ nth (s.rs ++ [2 * (s.ws.length : Int)]) j ≤ 9223372036854775807
    have hm := hs.ok.most
    rcases Nat.lt_trichotomy j s.rs.length with hj | hj | hj
    · have e1 : nth (s.rs ++ [2 * (s.ws.length : Int)]) j = nth s.rs j := by unfold nth; rw [List.getD_eq_getElem?_getD, List.getD_eq_getElem?_getD, List.getElem?_append_left hj]
      rw [e1]; exact h2 j
    · have e1 : nth (s.rs ++ [2 * (s.ws.length : Int)]) j = 2 * (s.ws.length : Int) := by subst hj; simp [nth]
      rw [e1]; omega
    · have e1 : nth (s.rs ++ [2 * (s.ws.length : Int)]) j = 0 := by unfold nth; rw [List.getD_eq_getElem?_getD, List.getElem?_eq_none (by simp; omega)]; rfl
      rw [e1]; omega
  · refine ⟨h1, fun j => ?_⟩
    show -9223372036854775808 ≤ nth (s.rs.set op.a.toNat op.w) j ∧ nth (s.rs.set op.a.toNat op.w) j ≤ 9223372036854775807
    rw [nth_set_]
    split
    · exact ho.w
    · exact h2 j
theorem play_i64 {ws rs : List Int} (hok : OkH ws) (hf : ∀ o ∈ rs, fitsB ws o = true) (h1 : I64 ws) (h2 : I64 rs) {ops : List TOp} (ho : ∀ op ∈ ops, OpIn op) : I64 (playT ws rs ops).ws ∧ I64 (playT ws rs ops).rs := by
  unfold playT
  have : ∀ (ops : List TOp) (s : TSt), (∀ op ∈ ops, OpIn op) → TOk s → I64 s.ws → I64 s.rs → I64 (ops.foldl doT s).ws ∧ I64 (ops.foldl doT s).rs := by
    intro ops
    induction ops with
    | nil => intro s _ _ h1 h2; exact ⟨h1, h2⟩
    | cons op ops ih =>
      intro s ho hs h1 h2
      obtain ⟨g1, g2⟩ := doT_i64 hs h1 h2 (ho op (by simp))
      exact ih _ (fun op h => ho op (by simp [h])) (doT_tok hs op) g1 g2
  exact this ops _ ho (start_tok hok hf) h1 h2
end Go.Proofs.Ytjpppdacamhhfaa
