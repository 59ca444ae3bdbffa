/- The shapes of the statements' arguments, as the plain Lean structures. No condition; plain lemmas. -/
import Derived.Test.YtoeenpcilfhjbaaDoorNOpen
import Derived.Test.YtoeenpcilfhjbaaDoorNData
namespace Go.Cx
set_option linter.unusedVariables false
set_option linter.unusedSimpArgs false
open Go.RowKit

theorem conf_list {α : Type} {c : α → List D} {row : List Sh} (hc : ∀ r, Confs row r → ∃ x, r = c x) : ∀ {rows : List (List D)}, (∀ r ∈ rows, Confs row r) → ∃ l : List α, rows = l.map c := by
  intro rows
  induction rows with
  | nil => intro _; exact ⟨[], rfl⟩
  | cons r rows ih =>
    intro h
    obtain ⟨x, rfl⟩ := hc r (h r (by simp))
    obtain ⟨l, rfl⟩ := ih (fun s hs => h s (by simp [hs]))
    exact ⟨x :: l, rfl⟩

theorem conf_sl {α : Type} {c : α → List D} {row : List Sh} (hc : ∀ r, Confs row r → ∃ x, r = c x) {d : D} (h : Conf (.sl row) d) : ∃ l : List α, d = .sl (l.map c) := by
  cases h with
  | sl _ rows hr =>
    obtain ⟨l, rfl⟩ := conf_list hc hr
    exact ⟨l, rfl⟩
theorem conf_str {d : D} (h : Conf .str d) : ∃ s, d = .str s := by cases h; exact ⟨_, rfl⟩
theorem conf_int {k : IntKind} {d : D} (h : Conf (.int k) d) : ∃ n, d = .int k n := by cases h; exact ⟨_, rfl⟩
theorem conf_bool {d : D} (h : Conf .bool d) : ∃ b, d = .bool b := by cases h; exact ⟨_, rfl⟩
theorem confs_cons {s : Sh} {ss : List Sh} {ds : List D} (h : Confs (s :: ss) ds) : ∃ d r, ds = d :: r ∧ Conf s d ∧ Confs ss r := by
  cases h with | cons _ _ d r h1 h2 => exact ⟨d, r, rfl, h1, h2⟩
theorem confs_nil {ds : List D} (h : Confs [] ds) : ds = [] := by cases h; rfl

theorem conf_tx (r : List D) (h : Confs [.str] r) : ∃ s, r = tx s := by
  obtain ⟨_, _, rfl, h1, h⟩ := confs_cons h
  cases confs_nil h
  obtain ⟨s, rfl⟩ := conf_str h1
  exact ⟨s, rfl⟩
theorem conf_ix (r : List D) (h : Confs [.int .i64] r) : ∃ s, r = ixx s := by
  obtain ⟨_, _, rfl, h1, h⟩ := confs_cons h
  cases confs_nil h
  obtain ⟨s, rfl⟩ := conf_int h1
  exact ⟨s, rfl⟩
theorem conf_yx (r : List D) (h : Confs [.int .u8] r) : ∃ s, r = yx s := by
  obtain ⟨_, _, rfl, h1, h⟩ := confs_cons h
  cases confs_nil h
  obtain ⟨s, rfl⟩ := conf_int h1
  exact ⟨s, rfl⟩
abbrev shFact : List Sh := [.str, .sl [.str]]
theorem conf_Fact (r : List D) (h : Confs shFact r) : ∃ x : Fact, r = x.c := by
  obtain ⟨_, _, rfl, h1, h⟩ := confs_cons h
  obtain ⟨_, _, rfl, h2, h⟩ := confs_cons h
  cases confs_nil h
  obtain ⟨a, rfl⟩ := conf_str h1
  obtain ⟨b, rfl⟩ := conf_sl conf_tx h2
  exact ⟨⟨a, b⟩, rfl⟩
abbrev shPair : List Sh := [.str, .str]
theorem conf_Pair (r : List D) (h : Confs shPair r) : ∃ x : Pair, r = x.c := by
  obtain ⟨_, _, rfl, h1, h⟩ := confs_cons h
  obtain ⟨_, _, rfl, h2, h⟩ := confs_cons h
  cases confs_nil h
  obtain ⟨a, rfl⟩ := conf_str h1
  obtain ⟨b, rfl⟩ := conf_str h2
  exact ⟨⟨a, b⟩, rfl⟩
abbrev shCond : List Sh := [.int .i64, .str, .sl [.str], .str, .str]
theorem conf_Cond (r : List D) (h : Confs shCond r) : ∃ x : Cond, r = x.c := by
  obtain ⟨_, _, rfl, h1, h⟩ := confs_cons h
  obtain ⟨_, _, rfl, h2, h⟩ := confs_cons h
  obtain ⟨_, _, rfl, h3, h⟩ := confs_cons h
  obtain ⟨_, _, rfl, h4, h⟩ := confs_cons h
  obtain ⟨_, _, rfl, h5, h⟩ := confs_cons h
  cases confs_nil h
  obtain ⟨a, rfl⟩ := conf_int h1
  obtain ⟨b, rfl⟩ := conf_str h2
  obtain ⟨c, rfl⟩ := conf_sl conf_tx h3
  obtain ⟨d, rfl⟩ := conf_str h4
  obtain ⟨e, rfl⟩ := conf_str h5
  exact ⟨⟨a, ⟨b, c⟩, d, e⟩, rfl⟩
abbrev shAction : List Sh := [.int .i64, .str, .sl [.str]]
theorem conf_Action (r : List D) (h : Confs shAction r) : ∃ x : Action, r = x.c := by
  obtain ⟨_, _, rfl, h1, h⟩ := confs_cons h
  obtain ⟨_, _, rfl, h2, h⟩ := confs_cons h
  obtain ⟨_, _, rfl, h3, h⟩ := confs_cons h
  cases confs_nil h
  obtain ⟨a, rfl⟩ := conf_int h1
  obtain ⟨b, rfl⟩ := conf_str h2
  obtain ⟨c, rfl⟩ := conf_sl conf_tx h3
  exact ⟨⟨a, ⟨b, c⟩⟩, rfl⟩
abbrev shRule : List Sh := [.str, .int .i64, .sl shCond, .sl shAction]
theorem conf_Rule (r : List D) (h : Confs shRule r) : ∃ x : Rule, r = x.c := by
  obtain ⟨_, _, rfl, h1, h⟩ := confs_cons h
  obtain ⟨_, _, rfl, h2, h⟩ := confs_cons h
  obtain ⟨_, _, rfl, h3, h⟩ := confs_cons h
  obtain ⟨_, _, rfl, h4, h⟩ := confs_cons h
  cases confs_nil h
  obtain ⟨a, rfl⟩ := conf_str h1
  obtain ⟨b, rfl⟩ := conf_int h2
  obtain ⟨c, rfl⟩ := conf_sl conf_Cond h3
  obtain ⟨d, rfl⟩ := conf_sl conf_Action h4
  exact ⟨⟨a, b, c, d⟩, rfl⟩
abbrev shMatch : List Sh := [.str, .sl shFact, .sl shPair]
theorem conf_Match (r : List D) (h : Confs shMatch r) : ∃ x : Match, r = x.c := by
  obtain ⟨_, _, rfl, h1, h⟩ := confs_cons h
  obtain ⟨_, _, rfl, h2, h⟩ := confs_cons h
  obtain ⟨_, _, rfl, h3, h⟩ := confs_cons h
  cases confs_nil h
  obtain ⟨a, rfl⟩ := conf_str h1
  obtain ⟨b, rfl⟩ := conf_sl conf_Fact h2
  obtain ⟨c, rfl⟩ := conf_sl conf_Pair h3
  exact ⟨⟨a, b, c⟩, rfl⟩
abbrev shToken : List Sh := [.sl shFact, .sl shPair]
theorem conf_Token (r : List D) (h : Confs shToken r) : ∃ x : Token, r = x.c := by
  obtain ⟨_, _, rfl, h2, h⟩ := confs_cons h
  obtain ⟨_, _, rfl, h3, h⟩ := confs_cons h
  cases confs_nil h
  obtain ⟨b, rfl⟩ := conf_sl conf_Fact h2
  obtain ⟨c, rfl⟩ := conf_sl conf_Pair h3
  exact ⟨⟨b, c⟩, rfl⟩
abbrev shAlpha : List Sh := [.str, .sl [.str], .sl shFact]
theorem conf_Alpha (r : List D) (h : Confs shAlpha r) : ∃ x : Alpha, r = x.c := by
  obtain ⟨_, _, rfl, h1, h⟩ := confs_cons h
  obtain ⟨_, _, rfl, h2, h⟩ := confs_cons h
  obtain ⟨_, _, rfl, h3, h⟩ := confs_cons h
  cases confs_nil h
  obtain ⟨v0, rfl⟩ := conf_str h1
  obtain ⟨v1, rfl⟩ := conf_sl conf_tx h2
  obtain ⟨v2, rfl⟩ := conf_sl conf_Fact h3
  exact ⟨⟨⟨v0, v1⟩, v2⟩, rfl⟩
abbrev shNode : List Sh := [.int .i64, .int .i64, .str, .sl [.str], .str, .str, .int .i64, .sl shToken]
theorem conf_Node (r : List D) (h : Confs shNode r) : ∃ x : Node, r = x.c := by
  obtain ⟨_, _, rfl, h1, h⟩ := confs_cons h
  obtain ⟨_, _, rfl, h2, h⟩ := confs_cons h
  obtain ⟨_, _, rfl, h3, h⟩ := confs_cons h
  obtain ⟨_, _, rfl, h4, h⟩ := confs_cons h
  obtain ⟨_, _, rfl, h5, h⟩ := confs_cons h
  obtain ⟨_, _, rfl, h6, h⟩ := confs_cons h
  obtain ⟨_, _, rfl, h7, h⟩ := confs_cons h
  obtain ⟨_, _, rfl, h8, h⟩ := confs_cons h
  cases confs_nil h
  obtain ⟨v0, rfl⟩ := conf_int h1
  obtain ⟨v1, rfl⟩ := conf_int h2
  obtain ⟨v2, rfl⟩ := conf_str h3
  obtain ⟨v3, rfl⟩ := conf_sl conf_tx h4
  obtain ⟨v4, rfl⟩ := conf_str h5
  obtain ⟨v5, rfl⟩ := conf_str h6
  obtain ⟨v6, rfl⟩ := conf_int h7
  obtain ⟨v7, rfl⟩ := conf_sl conf_Token h8
  exact ⟨⟨v0, ⟨v1, ⟨v2, v3⟩, v4, v5⟩, v6, v7⟩, rfl⟩
abbrev shNetwork : List Sh := [.sl shRule, .sl [.int .i64], .sl shAlpha, .sl shNode, .sl shFact, .int .i64]
theorem conf_Network (r : List D) (h : Confs shNetwork r) : ∃ x : Network, r = x.c := by
  obtain ⟨_, _, rfl, h1, h⟩ := confs_cons h
  obtain ⟨_, _, rfl, h2, h⟩ := confs_cons h
  obtain ⟨_, _, rfl, h3, h⟩ := confs_cons h
  obtain ⟨_, _, rfl, h4, h⟩ := confs_cons h
  obtain ⟨_, _, rfl, h5, h⟩ := confs_cons h
  obtain ⟨_, _, rfl, h6, h⟩ := confs_cons h
  cases confs_nil h
  obtain ⟨v0, rfl⟩ := conf_sl conf_Rule h1
  obtain ⟨v1, rfl⟩ := conf_sl conf_ix h2
  obtain ⟨v2, rfl⟩ := conf_sl conf_Alpha h3
  obtain ⟨v3, rfl⟩ := conf_sl conf_Node h4
  obtain ⟨v4, rfl⟩ := conf_sl conf_Fact h5
  obtain ⟨v5, rfl⟩ := conf_int h6
  exact ⟨⟨v0, v1, v2, v3, v4, v5⟩, rfl⟩
abbrev shStamp : List Sh := [.str, .sl [.str], .int .i64]
theorem conf_Stamp (r : List D) (h : Confs shStamp r) : ∃ x : Stamp, r = x.c := by
  obtain ⟨_, _, rfl, h1, h⟩ := confs_cons h
  obtain ⟨_, _, rfl, h2, h⟩ := confs_cons h
  obtain ⟨_, _, rfl, h3, h⟩ := confs_cons h
  cases confs_nil h
  obtain ⟨a, rfl⟩ := conf_str h1
  obtain ⟨b, rfl⟩ := conf_sl conf_tx h2
  obtain ⟨c, rfl⟩ := conf_int h3
  exact ⟨⟨⟨a, b⟩, c⟩, rfl⟩
abbrev shFiring : List Sh := [.str, .sl [.int .i64]]
theorem conf_Firing (r : List D) (h : Confs shFiring r) : ∃ x : Firing, r = x.c := by
  obtain ⟨_, _, rfl, h1, h⟩ := confs_cons h
  obtain ⟨_, _, rfl, h2, h⟩ := confs_cons h
  cases confs_nil h
  obtain ⟨a, rfl⟩ := conf_str h1
  obtain ⟨b, rfl⟩ := conf_sl conf_ix h2
  exact ⟨⟨a, b⟩, rfl⟩
abbrev shChoice : List Sh := [.str, .sl shFact, .sl shPair, .int .i64, .sl [.int .i64], .int .i64, .int .i64]
theorem conf_Choice (r : List D) (h : Confs shChoice r) : ∃ x : Choice, r = x.c := by
  obtain ⟨_, _, rfl, h1, h⟩ := confs_cons h
  obtain ⟨_, _, rfl, h2, h⟩ := confs_cons h
  obtain ⟨_, _, rfl, h3, h⟩ := confs_cons h
  obtain ⟨_, _, rfl, h4, h⟩ := confs_cons h
  obtain ⟨_, _, rfl, h5, h⟩ := confs_cons h
  obtain ⟨_, _, rfl, h6, h⟩ := confs_cons h
  obtain ⟨_, _, rfl, h7, h⟩ := confs_cons h
  cases confs_nil h
  obtain ⟨a, rfl⟩ := conf_str h1
  obtain ⟨b, rfl⟩ := conf_sl conf_Fact h2
  obtain ⟨c, rfl⟩ := conf_sl conf_Pair h3
  obtain ⟨d, rfl⟩ := conf_int h4
  obtain ⟨e, rfl⟩ := conf_sl conf_ix h5
  obtain ⟨f, rfl⟩ := conf_int h6
  obtain ⟨g, rfl⟩ := conf_int h7
  exact ⟨⟨⟨a, b, c⟩, d, e, f, g⟩, rfl⟩

section
variable {P : Program} {n : Nat} {t : TypeId} {d : D}
theorem ArgC.struct {α : Type} {c : α → List D} {shs : List Sh} (hc : ∀ r, Confs shs r → ∃ x, r = c x) (ha : tagg P t = some true) (hf : flatT P n t = some shs) (h : ArgC P n t d) : ∃ x, d = .agg (c x) := by
  rcases h with ⟨_, shs', cells, h1, rfl, h2⟩ | ⟨h1, _⟩
  · rw [hf] at h1; cases h1
    obtain ⟨x, rfl⟩ := hc _ h2
    exact ⟨x, rfl⟩
  · rw [ha] at h1; cases h1
theorem ArgC.cell {sh : Sh} (ha : tagg P t = some false) (hf : flatT P n t = some [sh]) (h : ArgC P n t d) : Conf sh d := by
  rcases h with ⟨h1, _⟩ | ⟨_, sh', h1, h2⟩
  · rw [ha] at h1; cases h1
  · rw [hf] at h1; cases h1
    exact h2
end
end Go.Cx
