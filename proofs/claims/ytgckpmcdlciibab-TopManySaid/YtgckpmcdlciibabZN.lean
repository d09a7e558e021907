/- The facts on the program's types and functions, off the translation, by program (wip/inst.py). -/
import Derived.Test.YtgckpmcdlciibabRows
import Derived.Test.YtgckpmcdlciibabZA
namespace Go.Proofs.Ytgckpmcdlciibab
theorem siz_of {P : Program} {t : TypeId} {z : Value} {k b : Nat} (h : (P.info? t).map (fun i => (i.zero, i.size, i.bytes)) = some (some z, k, b)) : Siz P t k := ⟨by
  cases hi : P.info? t with
  | none => rw [hi] at h; cases h
  | some i => rw [hi] at h; simp at h; exact ⟨i, rfl, h.2.1⟩⟩
theorem byt_of {P : Program} {t : TypeId} {z : Value} {k b : Nat} (h : (P.info? t).map (fun i => (i.zero, i.size, i.bytes)) = some (some z, k, b)) : Byt P t b := ⟨by
  cases hi : P.info? t with
  | none => rw [hi] at h; cases h
  | some i => rw [hi] at h; simp at h; exact ⟨i, rfl, h.2.2⟩⟩
theorem zer_of {P : Program} {t : TypeId} {z : Value} {k b : Nat} (h : (P.info? t).map (fun i => (i.zero, i.size, i.bytes)) = some (some z, k, b)) : Zer P t z := ⟨by
  cases hi : P.info? t with
  | none => rw [hi] at h; cases h
  | some i => rw [hi] at h; simp at h; exact ⟨i, rfl, h.1⟩⟩
-- 1: func()
theorem inf_3 : (Try.prog.info? 3).map (fun i => (i.zero, i.size, i.bytes)) = some (some (.int .i64 0), 1, 8) := by kernel_rfl
instance : Siz Try.prog 3 1 := siz_of inf_3
instance : Zer Try.prog 3 (.int .i64 0) := zer_of inf_3
instance : Sca Try.prog 3 := ⟨_, Try.underlying3, rfl⟩
instance : IsInt Try.prog 3 .i64 := ⟨Try.underlying3⟩
-- 4: bool
theorem inf_4 : (Try.prog.info? 4).map (fun i => (i.zero, i.size, i.bytes)) = some (some (.bool false), 1, 1) := by kernel_rfl
instance : Siz Try.prog 4 1 := siz_of inf_4
instance : Byt Try.prog 4 1 := byt_of inf_4
instance : Zer Try.prog 4 (.bool false) := zer_of inf_4
instance : Sca Try.prog 4 := ⟨_, Try.underlying4, rfl⟩
-- 5: uint8
instance : IsInt Try.prog 5 .u8 := ⟨Try.underlying5⟩
-- 9: string
theorem inf_9 : (Try.prog.info? 9).map (fun i => (i.zero, i.size, i.bytes)) = some (some (.string ⟨#[]⟩), 1, 16) := by kernel_rfl
instance : Siz Try.prog 9 1 := siz_of inf_9
instance : Byt Try.prog 9 16 := byt_of inf_9
instance : Zer Try.prog 9 (.string ⟨#[]⟩) := zer_of inf_9
instance : Sca Try.prog 9 := ⟨_, Try.underlying9, rfl⟩
instance : IsStr Try.prog 9 := ⟨Try.underlying9⟩
-- 19: maps.unhashableTypeError
theorem inf_24 : (Try.prog.info? 24).map (fun i => (i.zero, i.size, i.bytes)) = some (some (.slice none 0 0), 1, 24) := by kernel_rfl
instance : Siz Try.prog 24 1 := siz_of inf_24
instance : Byt Try.prog 24 24 := byt_of inf_24
instance : Zer Try.prog 24 (.slice none 0 0) := zer_of inf_24
instance : Sca Try.prog 24 := ⟨_, Try.underlying24, rfl⟩
instance : Sli Try.prog 24 33 := ⟨Try.underlying24⟩
-- 25: []api.Request
theorem inf_25 : (Try.prog.info? 25).map (fun i => (i.zero, i.size, i.bytes)) = some (some (.slice none 0 0), 1, 24) := by kernel_rfl
instance : Siz Try.prog 25 1 := siz_of inf_25
instance : Sca Try.prog 25 := ⟨_, Try.underlying25, rfl⟩
instance : Sli Try.prog 25 52 := ⟨Try.underlying25⟩
-- 26: api.Errno
instance : Sca Try.prog 26 := ⟨_, Try.underlying26, rfl⟩
instance : Sca Try.prog 29 := ⟨_, Try.underlying29, rfl⟩
instance : Sli Try.prog 29 70 := ⟨Try.underlying29⟩
-- 30: func(int) []api.Service
theorem inf_31 : (Try.prog.info? 31).map (fun i => (i.zero, i.size, i.bytes)) = some (some (.slice none 0 0), 1, 24) := by kernel_rfl
instance : Siz Try.prog 31 1 := siz_of inf_31
instance : Sca Try.prog 31 := ⟨_, Try.underlying31, rfl⟩
instance : Sli Try.prog 31 24 := ⟨Try.underlying31⟩
-- 32: struct { Name string; Kind int; Null bool; Text string; Sub []api.Got; Subs [][]api.Got }
theorem inf_33 : (Try.prog.info? 33).map (fun i => (i.zero, i.size, i.bytes)) = some (some (.agg #[(.string ⟨#[]⟩), (.int .i64 0), (.bool false), (.string ⟨#[]⟩), (.slice none 0 0), (.slice none 0 0)]), 6, 96) := by kernel_rfl
instance : Siz Try.prog 33 6 := siz_of inf_33
instance : Byt Try.prog 33 96 := byt_of inf_33
instance : Zer Try.prog 33 (.agg #[(.string ⟨#[]⟩), (.int .i64 0), (.bool false), (.string ⟨#[]⟩), (.slice none 0 0), (.slice none 0 0)]) := zer_of inf_33
instance : Stc Try.prog 33 := ⟨_, Try.underlying33⟩
instance : Fo Try.prog 33 2 2 4 := ⟨_, _, Try.underlying33, rfl, rfl, rfl, by kernel_rfl, by kernel_rfl⟩
instance : Fo Try.prog 33 3 3 9 := ⟨_, _, Try.underlying33, rfl, rfl, rfl, by kernel_rfl, by kernel_rfl⟩
instance : Fo Try.prog 33 4 4 24 := ⟨_, _, Try.underlying33, rfl, rfl, rfl, by kernel_rfl, by kernel_rfl⟩
instance : Fo Try.prog 33 5 5 31 := ⟨_, _, Try.underlying33, rfl, rfl, rfl, by kernel_rfl, by kernel_rfl⟩
-- 34: func(int, int) bool
theorem inf_35 : (Try.prog.info? 35).map (fun i => (i.zero, i.size, i.bytes)) = some (some (.slice none 0 0), 1, 24) := by kernel_rfl
instance : Siz Try.prog 35 1 := siz_of inf_35
instance : Sca Try.prog 35 := ⟨_, Try.underlying35, rfl⟩
instance : Sli Try.prog 35 102 := ⟨Try.underlying35⟩
-- 36: struct { Type string; Key string; Picks []api.Pick }
theorem inf_37 : (Try.prog.info? 37).map (fun i => (i.zero, i.size, i.bytes)) = some (some (.agg #[(.string ⟨#[]⟩), (.string ⟨#[]⟩), (.slice none 0 0)]), 3, 56) := by kernel_rfl
instance : Siz Try.prog 37 3 := siz_of inf_37
instance : Zer Try.prog 37 (.agg #[(.string ⟨#[]⟩), (.string ⟨#[]⟩), (.slice none 0 0)]) := zer_of inf_37
instance : Stc Try.prog 37 := ⟨_, Try.underlying37⟩
instance : Fo Try.prog 37 0 0 9 := ⟨_, _, Try.underlying37, rfl, rfl, rfl, by kernel_rfl, by kernel_rfl⟩
instance : Fo Try.prog 37 1 1 9 := ⟨_, _, Try.underlying37, rfl, rfl, rfl, by kernel_rfl, by kernel_rfl⟩
instance : Fo Try.prog 37 2 2 35 := ⟨_, _, Try.underlying37, rfl, rfl, rfl, by kernel_rfl, by kernel_rfl⟩
-- 39: func(api.Ask) (string, api.Errno)
theorem inf_41 : (Try.prog.info? 41).map (fun i => (i.zero, i.size, i.bytes)) = some (some (.agg #[(.int .i64 0), (.int .i64 0)]), 2, 16) := by kernel_rfl
instance : Siz Try.prog 41 2 := siz_of inf_41
instance : Zer Try.prog 41 (.agg #[(.int .i64 0), (.int .i64 0)]) := zer_of inf_41
instance : Stc Try.prog 41 := ⟨_, Try.underlying41⟩
instance : Fo Try.prog 41 0 0 26 := ⟨_, _, Try.underlying41, rfl, rfl, rfl, by kernel_rfl, by kernel_rfl⟩
instance : Sca Try.prog 47 := ⟨_, Try.underlying47, rfl⟩
instance : Sli Try.prog 47 83 := ⟨Try.underlying47⟩
-- 48: func([]api.Part, api.Ask) api.Errno
theorem inf_50 : (Try.prog.info? 50).map (fun i => (i.zero, i.size, i.bytes)) = some (some (.slice none 0 0), 1, 24) := by kernel_rfl
instance : Siz Try.prog 50 1 := siz_of inf_50
instance : Sca Try.prog 50 := ⟨_, Try.underlying50, rfl⟩
instance : Sli Try.prog 50 9 := ⟨Try.underlying50⟩
-- 51: struct { Service int; Type string; Keys []string; Fields []string }
theorem inf_52 : (Try.prog.info? 52).map (fun i => (i.zero, i.size, i.bytes)) = some (some (.agg #[(.int .i64 0), (.string ⟨#[]⟩), (.slice none 0 0), (.slice none 0 0)]), 4, 72) := by kernel_rfl
instance : Siz Try.prog 52 4 := siz_of inf_52
instance : Byt Try.prog 52 72 := byt_of inf_52
instance : Zer Try.prog 52 (.agg #[(.int .i64 0), (.string ⟨#[]⟩), (.slice none 0 0), (.slice none 0 0)]) := zer_of inf_52
instance : Stc Try.prog 52 := ⟨_, Try.underlying52⟩
instance : Fo Try.prog 52 0 0 3 := ⟨_, _, Try.underlying52, rfl, rfl, rfl, by kernel_rfl, by kernel_rfl⟩
instance : Fo Try.prog 52 1 1 9 := ⟨_, _, Try.underlying52, rfl, rfl, rfl, by kernel_rfl, by kernel_rfl⟩
instance : Fo Try.prog 52 2 2 50 := ⟨_, _, Try.underlying52, rfl, rfl, rfl, by kernel_rfl, by kernel_rfl⟩
instance : Fo Try.prog 52 3 3 50 := ⟨_, _, Try.underlying52, rfl, rfl, rfl, by kernel_rfl, by kernel_rfl⟩
-- 53: []bool
theorem inf_53 : (Try.prog.info? 53).map (fun i => (i.zero, i.size, i.bytes)) = some (some (.slice none 0 0), 1, 24) := by kernel_rfl
instance : Siz Try.prog 53 1 := siz_of inf_53
instance : Sca Try.prog 53 := ⟨_, Try.underlying53, rfl⟩
instance : Sli Try.prog 53 4 := ⟨Try.underlying53⟩
-- 54: [][]api.Val
theorem inf_54 : (Try.prog.info? 54).map (fun i => (i.zero, i.size, i.bytes)) = some (some (.slice none 0 0), 1, 24) := by kernel_rfl
instance : Siz Try.prog 54 1 := siz_of inf_54
instance : Sca Try.prog 54 := ⟨_, Try.underlying54, rfl⟩
instance : Sli Try.prog 54 60 := ⟨Try.underlying54⟩
-- 55: struct { Found []bool; Vals [][]api.Val }
theorem inf_56 : (Try.prog.info? 56).map (fun i => (i.zero, i.size, i.bytes)) = some (some (.agg #[(.slice none 0 0), (.slice none 0 0)]), 2, 48) := by kernel_rfl
instance : Siz Try.prog 56 2 := siz_of inf_56
instance : Zer Try.prog 56 (.agg #[(.slice none 0 0), (.slice none 0 0)]) := zer_of inf_56
instance : Stc Try.prog 56 := ⟨_, Try.underlying56⟩
instance : Fo Try.prog 56 0 0 53 := ⟨_, _, Try.underlying56, rfl, rfl, rfl, by kernel_rfl, by kernel_rfl⟩
instance : Fo Try.prog 56 1 1 54 := ⟨_, _, Try.underlying56, rfl, rfl, rfl, by kernel_rfl, by kernel_rfl⟩
-- 58: func([]api.Service, api.Request) (api.Reply, api.Errno)
theorem inf_60 : (Try.prog.info? 60).map (fun i => (i.zero, i.size, i.bytes)) = some (some (.slice none 0 0), 1, 24) := by kernel_rfl
instance : Siz Try.prog 60 1 := siz_of inf_60
instance : Byt Try.prog 60 24 := byt_of inf_60
instance : Zer Try.prog 60 (.slice none 0 0) := zer_of inf_60
instance : Sca Try.prog 60 := ⟨_, Try.underlying60, rfl⟩
instance : Sli Try.prog 60 62 := ⟨Try.underlying60⟩
-- 61: struct { Field string; Text string; Keys []string }
theorem inf_62 : (Try.prog.info? 62).map (fun i => (i.zero, i.size, i.bytes)) = some (some (.agg #[(.string ⟨#[]⟩), (.string ⟨#[]⟩), (.slice none 0 0)]), 3, 56) := by kernel_rfl
instance : Siz Try.prog 62 3 := siz_of inf_62
instance : Byt Try.prog 62 56 := byt_of inf_62
instance : Zer Try.prog 62 (.agg #[(.string ⟨#[]⟩), (.string ⟨#[]⟩), (.slice none 0 0)]) := zer_of inf_62
instance : Stc Try.prog 62 := ⟨_, Try.underlying62⟩
instance : Fo Try.prog 62 0 0 9 := ⟨_, _, Try.underlying62, rfl, rfl, rfl, by kernel_rfl, by kernel_rfl⟩
instance : Fo Try.prog 62 1 1 9 := ⟨_, _, Try.underlying62, rfl, rfl, rfl, by kernel_rfl, by kernel_rfl⟩
instance : Fo Try.prog 62 2 2 50 := ⟨_, _, Try.underlying62, rfl, rfl, rfl, by kernel_rfl, by kernel_rfl⟩
-- 63: func([]api.Service, api.Request) bool
theorem inf_65 : (Try.prog.info? 65).map (fun i => (i.zero, i.size, i.bytes)) = some (some (.agg #[(.string ⟨#[]⟩), (.string ⟨#[]⟩), (.slice none 0 0)]), 3, 56) := by kernel_rfl
instance : Siz Try.prog 65 3 := siz_of inf_65
instance : Byt Try.prog 65 56 := byt_of inf_65
instance : Zer Try.prog 65 (.agg #[(.string ⟨#[]⟩), (.string ⟨#[]⟩), (.slice none 0 0)]) := zer_of inf_65
instance : Stc Try.prog 65 := ⟨_, Try.underlying65⟩
instance : Fo Try.prog 65 0 0 9 := ⟨_, _, Try.underlying65, rfl, rfl, rfl, by kernel_rfl, by kernel_rfl⟩
instance : Fo Try.prog 65 1 1 9 := ⟨_, _, Try.underlying65, rfl, rfl, rfl, by kernel_rfl, by kernel_rfl⟩
instance : Fo Try.prog 65 2 2 60 := ⟨_, _, Try.underlying65, rfl, rfl, rfl, by kernel_rfl, by kernel_rfl⟩
-- 66: []api.Type
instance : Sca Try.prog 66 := ⟨_, Try.underlying66, rfl⟩
instance : Sli Try.prog 66 80 := ⟨Try.underlying66⟩
-- 67: []api.Change
instance : Sca Try.prog 67 := ⟨_, Try.underlying67, rfl⟩
instance : Sli Try.prog 67 109 := ⟨Try.underlying67⟩
-- 68: []api.Thing
theorem inf_68 : (Try.prog.info? 68).map (fun i => (i.zero, i.size, i.bytes)) = some (some (.slice none 0 0), 1, 24) := by kernel_rfl
instance : Siz Try.prog 68 1 := siz_of inf_68
instance : Sca Try.prog 68 := ⟨_, Try.underlying68, rfl⟩
instance : Sli Try.prog 68 65 := ⟨Try.underlying68⟩
-- 69: struct { Types []api.Type; Changes []api.Change; Things []api.Thing }
theorem inf_70 : (Try.prog.info? 70).map (fun i => (i.zero, i.size, i.bytes)) = some (some (.agg #[(.slice none 0 0), (.slice none 0 0), (.slice none 0 0)]), 3, 72) := by kernel_rfl
instance : Siz Try.prog 70 3 := siz_of inf_70
instance : Zer Try.prog 70 (.agg #[(.slice none 0 0), (.slice none 0 0), (.slice none 0 0)]) := zer_of inf_70
instance : Stc Try.prog 70 := ⟨_, Try.underlying70⟩
instance : Fo Try.prog 70 0 0 66 := ⟨_, _, Try.underlying70, rfl, rfl, rfl, by kernel_rfl, by kernel_rfl⟩
instance : Fo Try.prog 70 1 1 67 := ⟨_, _, Try.underlying70, rfl, rfl, rfl, by kernel_rfl, by kernel_rfl⟩
instance : Fo Try.prog 70 2 2 68 := ⟨_, _, Try.underlying70, rfl, rfl, rfl, by kernel_rfl, by kernel_rfl⟩
-- 71: func(int) bool
theorem inf_78 : (Try.prog.info? 78).map (fun i => (i.zero, i.size, i.bytes)) = some (some (.slice none 0 0), 1, 24) := by kernel_rfl
instance : Siz Try.prog 78 1 := siz_of inf_78
instance : Sca Try.prog 78 := ⟨_, Try.underlying78, rfl⟩
instance : Sli Try.prog 78 86 := ⟨Try.underlying78⟩
-- 79: struct { Name string; Fields []api.Field }
theorem inf_80 : (Try.prog.info? 80).map (fun i => (i.zero, i.size, i.bytes)) = some (some (.agg #[(.string ⟨#[]⟩), (.slice none 0 0)]), 2, 40) := by kernel_rfl
instance : Siz Try.prog 80 2 := siz_of inf_80
instance : Zer Try.prog 80 (.agg #[(.string ⟨#[]⟩), (.slice none 0 0)]) := zer_of inf_80
instance : Stc Try.prog 80 := ⟨_, Try.underlying80⟩
instance : Fo Try.prog 80 0 0 9 := ⟨_, _, Try.underlying80, rfl, rfl, rfl, by kernel_rfl, by kernel_rfl⟩
instance : Fo Try.prog 80 1 1 78 := ⟨_, _, Try.underlying80, rfl, rfl, rfl, by kernel_rfl, by kernel_rfl⟩
-- 81: []api.Owner
theorem inf_81 : (Try.prog.info? 81).map (fun i => (i.zero, i.size, i.bytes)) = some (some (.slice none 0 0), 1, 24) := by kernel_rfl
instance : Siz Try.prog 81 1 := siz_of inf_81
instance : Sca Try.prog 81 := ⟨_, Try.underlying81, rfl⟩
instance : Sli Try.prog 81 89 := ⟨Try.underlying81⟩
-- 82: struct { Type api.Type; Owners []api.Owner; Homes []api.Owner }
theorem inf_83 : (Try.prog.info? 83).map (fun i => (i.zero, i.size, i.bytes)) = some (some (.agg #[(.string ⟨#[]⟩), (.slice none 0 0), (.slice none 0 0), (.slice none 0 0)]), 4, 88) := by kernel_rfl
instance : Siz Try.prog 83 4 := siz_of inf_83
instance : Byt Try.prog 83 88 := byt_of inf_83
instance : Zer Try.prog 83 (.agg #[(.string ⟨#[]⟩), (.slice none 0 0), (.slice none 0 0), (.slice none 0 0)]) := zer_of inf_83
instance : Stc Try.prog 83 := ⟨_, Try.underlying83⟩
instance : Fo Try.prog 83 0 0 80 := ⟨_, _, Try.underlying83, rfl, rfl, rfl, by kernel_rfl, by kernel_rfl⟩
instance : Fo Try.prog 83 1 2 81 := ⟨_, _, Try.underlying83, rfl, rfl, rfl, by kernel_rfl, by kernel_rfl⟩
instance : Fo Try.prog 83 2 3 81 := ⟨_, _, Try.underlying83, rfl, rfl, rfl, by kernel_rfl, by kernel_rfl⟩
-- 84: func([]api.Service, string) bool
theorem inf_86 : (Try.prog.info? 86).map (fun i => (i.zero, i.size, i.bytes)) = some (some (.agg #[(.string ⟨#[]⟩), (.int .i64 0), (.string ⟨#[]⟩)]), 3, 40) := by kernel_rfl
instance : Siz Try.prog 86 3 := siz_of inf_86
instance : Byt Try.prog 86 40 := byt_of inf_86
instance : Zer Try.prog 86 (.agg #[(.string ⟨#[]⟩), (.int .i64 0), (.string ⟨#[]⟩)]) := zer_of inf_86
instance : Stc Try.prog 86 := ⟨_, Try.underlying86⟩
instance : Fo Try.prog 86 0 0 9 := ⟨_, _, Try.underlying86, rfl, rfl, rfl, by kernel_rfl, by kernel_rfl⟩
instance : Fo Try.prog 86 1 1 3 := ⟨_, _, Try.underlying86, rfl, rfl, rfl, by kernel_rfl, by kernel_rfl⟩
instance : Fo Try.prog 86 2 2 9 := ⟨_, _, Try.underlying86, rfl, rfl, rfl, by kernel_rfl, by kernel_rfl⟩
-- 87: func([]api.Field, string) int
theorem inf_89 : (Try.prog.info? 89).map (fun i => (i.zero, i.size, i.bytes)) = some (some (.agg #[(.int .i64 0), (.string ⟨#[]⟩), (.string ⟨#[]⟩)]), 3, 40) := by kernel_rfl
instance : Siz Try.prog 89 3 := siz_of inf_89
instance : Byt Try.prog 89 40 := byt_of inf_89
instance : Zer Try.prog 89 (.agg #[(.int .i64 0), (.string ⟨#[]⟩), (.string ⟨#[]⟩)]) := zer_of inf_89
instance : Stc Try.prog 89 := ⟨_, Try.underlying89⟩
instance : Fo Try.prog 89 0 0 3 := ⟨_, _, Try.underlying89, rfl, rfl, rfl, by kernel_rfl, by kernel_rfl⟩
instance : Fo Try.prog 89 1 1 9 := ⟨_, _, Try.underlying89, rfl, rfl, rfl, by kernel_rfl, by kernel_rfl⟩
instance : Fo Try.prog 89 2 2 9 := ⟨_, _, Try.underlying89, rfl, rfl, rfl, by kernel_rfl, by kernel_rfl⟩
-- 90: []api.Seen
instance : Sli Try.prog 90 94 := ⟨Try.underlying90⟩
-- 92: func([]api.Type, []api.Change) ([]api.Seen, api.Fault)
theorem inf_94 : (Try.prog.info? 94).map (fun i => (i.zero, i.size, i.bytes)) = some (some (.agg #[(.string ⟨#[]⟩), (.slice none 0 0), (.string ⟨#[]⟩), (.slice none 0 0)]), 4, 80) := by kernel_rfl
instance : Siz Try.prog 94 4 := siz_of inf_94
instance : Byt Try.prog 94 80 := byt_of inf_94
instance : Zer Try.prog 94 (.agg #[(.string ⟨#[]⟩), (.slice none 0 0), (.string ⟨#[]⟩), (.slice none 0 0)]) := zer_of inf_94
instance : Stc Try.prog 94 := ⟨_, Try.underlying94⟩
instance : Fo Try.prog 94 0 0 80 := ⟨_, _, Try.underlying94, rfl, rfl, rfl, by kernel_rfl, by kernel_rfl⟩
instance : Fo Try.prog 94 1 2 9 := ⟨_, _, Try.underlying94, rfl, rfl, rfl, by kernel_rfl, by kernel_rfl⟩
instance : Fo Try.prog 94 2 3 50 := ⟨_, _, Try.underlying94, rfl, rfl, rfl, by kernel_rfl, by kernel_rfl⟩
-- 95: func([]api.Service) bool
theorem inf_102 : (Try.prog.info? 102).map (fun i => (i.zero, i.size, i.bytes)) = some (some (.agg #[(.string ⟨#[]⟩), (.string ⟨#[]⟩), (.slice none 0 0)]), 3, 56) := by kernel_rfl
instance : Siz Try.prog 102 3 := siz_of inf_102
instance : Byt Try.prog 102 56 := byt_of inf_102
instance : Zer Try.prog 102 (.agg #[(.string ⟨#[]⟩), (.string ⟨#[]⟩), (.slice none 0 0)]) := zer_of inf_102
instance : Stc Try.prog 102 := ⟨_, Try.underlying102⟩
instance : Fo Try.prog 102 0 0 9 := ⟨_, _, Try.underlying102, rfl, rfl, rfl, by kernel_rfl, by kernel_rfl⟩
instance : Fo Try.prog 102 1 1 9 := ⟨_, _, Try.underlying102, rfl, rfl, rfl, by kernel_rfl, by kernel_rfl⟩
instance : Fo Try.prog 102 2 2 35 := ⟨_, _, Try.underlying102, rfl, rfl, rfl, by kernel_rfl, by kernel_rfl⟩
-- 103: func([]api.Service, api.Ask, int, string) bool
theorem inf_109 : (Try.prog.info? 109).map (fun i => (i.zero, i.size, i.bytes)) = some (some (.agg #[(.int .i64 0), (.string ⟨#[]⟩), (.string ⟨#[]⟩), (.string ⟨#[]⟩)]), 4, 56) := by kernel_rfl
instance : Siz Try.prog 109 4 := siz_of inf_109
instance : Fo Try.prog 109 0 0 3 := ⟨_, _, Try.underlying109, rfl, rfl, rfl, by kernel_rfl, by kernel_rfl⟩
instance : Fo Try.prog 109 1 1 9 := ⟨_, _, Try.underlying109, rfl, rfl, rfl, by kernel_rfl, by kernel_rfl⟩
instance : Fo Try.prog 109 2 2 9 := ⟨_, _, Try.underlying109, rfl, rfl, rfl, by kernel_rfl, by kernel_rfl⟩
instance : Fo Try.prog 109 3 3 9 := ⟨_, _, Try.underlying109, rfl, rfl, rfl, by kernel_rfl, by kernel_rfl⟩
-- 110: func(api.Pick) string
theorem inf_122 : (Try.prog.info? 122).map (fun i => (i.zero, i.size, i.bytes)) = some (some (.agg #[(.int .i64 0), (.int .i64 0)]), 2, 16) := by kernel_rfl
instance : Siz Try.prog 122 2 := siz_of inf_122
instance : Zer Try.prog 122 (.agg #[(.int .i64 0), (.int .i64 0)]) := zer_of inf_122
instance : Fo Try.prog 122 0 0 41 := ⟨_, _, Try.underlying122, rfl, rfl, rfl, by kernel_rfl, by kernel_rfl⟩
-- 123: *query.reader
instance : Fo Try.prog 125 0 0 9 := ⟨_, _, Try.underlying125, rfl, rfl, rfl, by kernel_rfl, by kernel_rfl⟩
instance : Fo Try.prog 125 1 1 3 := ⟨_, _, Try.underlying125, rfl, rfl, rfl, by kernel_rfl, by kernel_rfl⟩
instance : Fo Try.prog 125 2 2 3 := ⟨_, _, Try.underlying125, rfl, rfl, rfl, by kernel_rfl, by kernel_rfl⟩
-- 126: func(uint8)
theorem inf_136 : (Try.prog.info? 136).map (fun i => (i.zero, i.size, i.bytes)) = some (some (.pointer none), 1, 8) := by kernel_rfl
instance : Siz Try.prog 136 1 := siz_of inf_136
instance : Zer Try.prog 136 (.pointer none) := zer_of inf_136
instance : Sca Try.prog 136 := ⟨_, Try.underlying136, rfl⟩
instance : IsPtr Try.prog 136 65 := ⟨Try.underlying136⟩
-- 137: func(*api.Service, string, string) *api.Thing
instance : Sli Try.prog 159 94 := ⟨Try.underlying159⟩
-- 160: func([]api.Field) []api.Field
instance : Fo Try.prog 172 0 0 29 := ⟨_, _, Try.underlying172, rfl, rfl, rfl, by kernel_rfl, by kernel_rfl⟩
instance : Fo Try.prog 172 1 1 47 := ⟨_, _, Try.underlying172, rfl, rfl, rfl, by kernel_rfl, by kernel_rfl⟩
instance : Fo Try.prog 172 2 2 25 := ⟨_, _, Try.underlying172, rfl, rfl, rfl, by kernel_rfl, by kernel_rfl⟩
-- 174: map[string][]api.Got
instance : IsMap Try.prog 174 9 24 := ⟨Try.underlying174⟩
-- 175: func(*api.Part, []string, []api.Pick) map[string][]api.Got
instance : IsMap Try.prog 209 9 214 := ⟨Try.underlying209⟩
-- 210: func(*api.Part, []string, []api.Pick) map[string]*gate.row
instance : Sca Try.prog 211 := ⟨_, Try.underlying211, rfl⟩
instance : IsMap Try.prog 211 9 62 := ⟨Try.underlying211⟩
-- 212: struct { there bool; vals map[string]api.Val }
instance : Fo Try.prog 213 0 0 4 := ⟨_, _, Try.underlying213, rfl, rfl, rfl, by kernel_rfl, by kernel_rfl⟩
instance : Fo Try.prog 213 1 1 211 := ⟨_, _, Try.underlying213, rfl, rfl, rfl, by kernel_rfl, by kernel_rfl⟩
-- 214: *gate.row
theorem inf_214 : (Try.prog.info? 214).map (fun i => (i.zero, i.size, i.bytes)) = some (some (.pointer none), 1, 8) := by kernel_rfl
instance : Zer Try.prog 214 (.pointer none) := zer_of inf_214
instance : IsInt Try.prog 222 .u64 := ⟨Try.underlying222⟩
-- 223: func([]api.Part, int)
instance : Fun Try.prog 15 := ⟨_, Try.func15, by kernel_rfl, rfl⟩ -- stitchery/stitchtop.alive
instance : Fun Try.prog 16 := ⟨_, Try.func16, by kernel_rfl, rfl⟩ -- stitchery/stitchtop.key
instance : Fun Try.prog 17 := ⟨_, Try.func17, by kernel_rfl, rfl⟩ -- stitchery/stitchtop.run
instance : Fun Try.prog 18 := ⟨_, Try.func18, by kernel_rfl, rfl⟩ -- stitchery/stitchtop.people
instance : Fun Try.prog 21 := ⟨_, Try.func21, by kernel_rfl, rfl⟩ -- stitchery/query.Parse
instance : Fun Try.prog 23 := ⟨_, Try.func23, by kernel_rfl, rfl⟩ -- stitchery/query.Wrong
instance : Fun Try.prog 24 := ⟨_, Try.func24, by kernel_rfl, rfl⟩ -- stitchery/query.Check
instance : Fun Try.prog 26 := ⟨_, Try.func26, by kernel_rfl, rfl⟩ -- stitchery/serve.Answer
instance : Fun Try.prog 27 := ⟨_, Try.func27, by kernel_rfl, rfl⟩ -- stitchery/merge.Wrong
instance : Fun Try.prog 28 := ⟨_, Try.func28, by kernel_rfl, rfl⟩ -- stitchery/merge.All
instance : Fun Try.prog 32 := ⟨_, Try.func32, by kernel_rfl, rfl⟩ -- stitchery/merge.Find
instance : Fun Try.prog 35 := ⟨_, Try.func35, by kernel_rfl, rfl⟩ -- stitchery/schema.Field
instance : Fun Try.prog 36 := ⟨_, Try.func36, by kernel_rfl, rfl⟩ -- stitchery/change.See
instance : Fun Try.prog 42 := ⟨_, Try.func42, by kernel_rfl, rfl⟩ -- stitchery/gate.Run
instance : Fun Try.prog 43 := ⟨_, Try.func43, by kernel_rfl, rfl⟩ -- stitchery/stitchtop.word
instance : Fun Try.prog 44 := ⟨_, Try.func44, by kernel_rfl, rfl⟩ -- stitchery/query.Called
instance : Fun Try.prog 50 := ⟨_, Try.func50, by kernel_rfl, rfl⟩ -- (*stitchery/query.reader).name
instance : Fun Try.prog 51 := ⟨_, Try.func51, by kernel_rfl, rfl⟩ -- (*stitchery/query.reader).must
instance : Fun Try.prog 52 := ⟨_, Try.func52, by kernel_rfl, rfl⟩ -- (*stitchery/query.reader).list
instance : Fun Try.prog 53 := ⟨_, Try.func53, by kernel_rfl, rfl⟩ -- (*stitchery/query.reader).blank
instance : Fun Try.prog 54 := ⟨_, Try.func54, by kernel_rfl, rfl⟩ -- (*stitchery/query.reader).fail
instance : Fun Try.prog 56 := ⟨_, Try.func56, by kernel_rfl, rfl⟩ -- stitchery/schema.Named
instance : Fun Try.prog 57 := ⟨_, Try.func57, by kernel_rfl, rfl⟩ -- stitchery/query.shape
instance : Fun Try.prog 58 := ⟨_, Try.func58, by kernel_rfl, rfl⟩ -- stitchery/query.picks
instance : Fun Try.prog 60 := ⟨_, Try.func60, by kernel_rfl, rfl⟩ -- stitchery/serve.Wrong
instance : Fun Try.prog 61 := ⟨_, Try.func61, by kernel_rfl, rfl⟩ -- stitchery/serve.thing
instance : Fun Try.prog 62 := ⟨_, Try.func62, by kernel_rfl, rfl⟩ -- slices.Clone[[]string,string]
instance : Fun Try.prog 63 := ⟨_, Try.func63, by kernel_rfl, rfl⟩ -- stitchery/schema.Things
instance : Fun Try.prog 64 := ⟨_, Try.func64, by kernel_rfl, rfl⟩ -- stitchery/merge.add
instance : Fun Try.prog 70 := ⟨_, Try.func70, by kernel_rfl, rfl⟩ -- slices.IndexFunc[[]stitchery/api.Part,stitchery/api.Part]
instance : Fun Try.prog 71 := ⟨_, Try.func71, by kernel_rfl, rfl⟩ -- stitchery/merge.Find$1
instance : Fun Try.prog 73 := ⟨_, Try.func73, by kernel_rfl, rfl⟩ -- slices.IndexFunc[[]stitchery/api.Field,stitchery/api.Field]
instance : Fun Try.prog 74 := ⟨_, Try.func74, by kernel_rfl, rfl⟩ -- stitchery/schema.Field$1
instance : Fun Try.prog 75 := ⟨_, Try.func75, by kernel_rfl, rfl⟩ -- stitchery/schema.Wrong
instance : Fun Try.prog 76 := ⟨_, Try.func76, by kernel_rfl, rfl⟩ -- slices.Clone[[]stitchery/api.Field,stitchery/api.Field]
instance : Fun Try.prog 77 := ⟨_, Try.func77, by kernel_rfl, rfl⟩ -- (stitchery/change.view).do
instance : Fun Try.prog 85 := ⟨_, Try.func85, by kernel_rfl, rfl⟩ -- (*stitchery/gate.gate).things
instance : Fun Try.prog 88 := ⟨_, Try.func88, by kernel_rfl, rfl⟩ -- (*stitchery/query.reader).eat
instance : Fun Try.prog 89 := ⟨_, Try.func89, by kernel_rfl, rfl⟩ -- (*stitchery/query.reader).pick
instance : Fun Try.prog 90 := ⟨_, Try.func90, by kernel_rfl, rfl⟩ -- slices.ContainsFunc[[]stitchery/api.Pick,stitchery/api.Pick]
instance : Fun Try.prog 91 := ⟨_, Try.func91, by kernel_rfl, rfl⟩ -- stitchery/query.picks$1
instance : Fun Try.prog 92 := ⟨_, Try.func92, by kernel_rfl, rfl⟩ -- stitchery/schema.Find
instance : Fun Try.prog 93 := ⟨_, Try.func93, by kernel_rfl, rfl⟩ -- slices.Contains[[]string,string]
instance : Fun Try.prog 94 := ⟨_, Try.func94, by kernel_rfl, rfl⟩ -- slices.IndexFunc[[]stitchery/api.Thing,stitchery/api.Thing]
instance : Fun Try.prog 95 := ⟨_, Try.func95, by kernel_rfl, rfl⟩ -- stitchery/serve.thing$1
instance : Fun Try.prog 96 := ⟨_, Try.func96, by kernel_rfl, rfl⟩ -- slices.ContainsFunc[[]stitchery/api.Thing,stitchery/api.Thing]
instance : Fun Try.prog 97 := ⟨_, Try.func97, by kernel_rfl, rfl⟩ -- stitchery/schema.Things$1
instance : Fun Try.prog 98 := ⟨_, Try.func98, by kernel_rfl, rfl⟩ -- stitchery/schema.vals
instance : Fun Try.prog 99 := ⟨_, Try.func99, by kernel_rfl, rfl⟩ -- slices.BinarySearchFunc[[]stitchery/api.Part,stitchery/api.Part,string]
instance : Fun Try.prog 100 := ⟨_, Try.func100, by kernel_rfl, rfl⟩ -- stitchery/merge.add$1
instance : Fun Try.prog 101 := ⟨_, Try.func101, by kernel_rfl, rfl⟩ -- cmp.Compare[string]
instance : Fun Try.prog 102 := ⟨_, Try.func102, by kernel_rfl, rfl⟩ -- slices.Insert[[]stitchery/api.Part,stitchery/api.Part]
instance : Fun Try.prog 111 := ⟨_, Try.func111, by kernel_rfl, rfl⟩ -- stitchery/schema.fields
instance : Fun Try.prog 112 := ⟨_, Try.func112, by kernel_rfl, rfl⟩ -- (stitchery/change.view).find
instance : Fun Try.prog 113 := ⟨_, Try.func113, by kernel_rfl, rfl⟩ -- (stitchery/change.view).call
instance : Fun Try.prog 114 := ⟨_, Try.func114, by kernel_rfl, rfl⟩ -- slices.Delete[[]stitchery/api.Field,stitchery/api.Field]
instance : Fun Try.prog 115 := ⟨_, Try.func115, by kernel_rfl, rfl⟩ -- slices.Delete[[]string,string]
instance : Fun Try.prog 121 := ⟨_, Try.func121, by kernel_rfl, rfl⟩ -- (*stitchery/gate.gate).fetch
instance : Fun Try.prog 122 := ⟨_, Try.func122, by kernel_rfl, rfl⟩ -- (*stitchery/gate.gate).pick
instance : Fun Try.prog 124 := ⟨_, Try.func124, by kernel_rfl, rfl⟩ -- slices.IndexFunc[[]stitchery/api.Pick,stitchery/api.Pick]
instance : Fun Try.prog 125 := ⟨_, Try.func125, by kernel_rfl, rfl⟩ -- slices.IndexFunc[[]stitchery/api.Type,stitchery/api.Type]
instance : Fun Try.prog 126 := ⟨_, Try.func126, by kernel_rfl, rfl⟩ -- stitchery/schema.Find$1
instance : Fun Try.prog 127 := ⟨_, Try.func127, by kernel_rfl, rfl⟩ -- slices.Index[[]string,string]
instance : Fun Try.prog 128 := ⟨_, Try.func128, by kernel_rfl, rfl⟩ -- slices.ContainsFunc[[]string,string]
instance : Fun Try.prog 129 := ⟨_, Try.func129, by kernel_rfl, rfl⟩ -- stitchery/schema.vals$1
instance : Fun Try.prog 130 := ⟨_, Try.func130, by kernel_rfl, rfl⟩ -- cmp.isNaN[string]
instance : Fun Try.prog 134 := ⟨_, Try.func134, by kernel_rfl, rfl⟩ -- slices.IndexFunc[stitchery/change.view,stitchery/api.Seen]
instance : Fun Try.prog 135 := ⟨_, Try.func135, by kernel_rfl, rfl⟩ -- (stitchery/change.view).find$1
instance : Fun Try.prog 139 := ⟨_, Try.func139, by kernel_rfl, rfl⟩ -- stitchery/gate.own
instance : Fun Try.prog 140 := ⟨_, Try.func140, by kernel_rfl, rfl⟩ -- slices.IndexFunc[[]string,string]
theorem mixed : Try.prog.follows .mixedOrders = true := by kernel_rfl
end Go.Proofs.Ytgckpmcdlciibab
