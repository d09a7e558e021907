/- The facts on the program's types and functions, off the translation, by program (wip/inst.py). -/
import Derived.Test.YtgckpmcdlciibabRows
import Derived.Test.YtgckpmcdlciibabZA
namespace Go.Proofs.Ytgckpmcdlciibab
theorem siz_of {P : Program} {t : TypeId} {z : Value} {k b : Nat} (h : (P.info? t).map (fun i => (i.zero, i.size, i.bytes)) = some (some z, k, b)) : Siz P t k := ⟨by
  cases hi : P.info? t with
  | none => rw [hi] at h; cases h
  | some i => rw [hi] at h; simp at h; exact ⟨i, rfl, h.2.1⟩⟩
theorem byt_of {P : Program} {t : TypeId} {z : Value} {k b : Nat} (h : (P.info? t).map (fun i => (i.zero, i.size, i.bytes)) = some (some z, k, b)) : Byt P t b := ⟨by
  cases hi : P.info? t with
  | none => rw [hi] at h; cases h
  | some i => rw [hi] at h; simp at h; exact ⟨i, rfl, h.2.2⟩⟩
theorem zer_of {P : Program} {t : TypeId} {z : Value} {k b : Nat} (h : (P.info? t).map (fun i => (i.zero, i.size, i.bytes)) = some (some z, k, b)) : Zer P t z := ⟨by
  cases hi : P.info? t with
  | none => rw [hi] at h; cases h
  | some i => rw [hi] at h; simp at h; exact ⟨i, rfl, h.1⟩⟩
-- 1: func()
theorem inf_3 : (Try.prog.info? 3).map (fun i => (i.zero, i.size, i.bytes)) = some (some (.int .i64 0), 1, 8) := by kernel_rfl
instance : Siz Try.prog 3 1 := siz_of inf_3
instance : Zer Try.prog 3 (.int .i64 0) := zer_of inf_3
instance : Sca Try.prog 3 := ⟨_, Try.underlying3, rfl⟩
instance : IsInt Try.prog 3 .i64 := ⟨Try.underlying3⟩
-- 4: bool
theorem inf_4 : (Try.prog.info? 4).map (fun i => (i.zero, i.size, i.bytes)) = some (some (.bool false), 1, 1) := by kernel_rfl
instance : Siz Try.prog 4 1 := siz_of inf_4
instance : Sca Try.prog 4 := ⟨_, Try.underlying4, rfl⟩
-- 5: uint8
theorem inf_5 : (Try.prog.info? 5).map (fun i => (i.zero, i.size, i.bytes)) = some (some (.int .u8 0), 1, 1) := by kernel_rfl
instance : Siz Try.prog 5 1 := siz_of inf_5
instance : Sca Try.prog 5 := ⟨_, Try.underlying5, rfl⟩
instance : IsInt Try.prog 5 .u8 := ⟨Try.underlying5⟩
-- 9: string
theorem inf_9 : (Try.prog.info? 9).map (fun i => (i.zero, i.size, i.bytes)) = some (some (.string ⟨#[]⟩), 1, 16) := by kernel_rfl
instance : Siz Try.prog 9 1 := siz_of inf_9
instance : Byt Try.prog 9 16 := byt_of inf_9
instance : Zer Try.prog 9 (.string ⟨#[]⟩) := zer_of inf_9
instance : Sca Try.prog 9 := ⟨_, Try.underlying9, rfl⟩
instance : IsStr Try.prog 9 := ⟨Try.underlying9⟩
-- 19: maps.unhashableTypeError
theorem inf_24 : (Try.prog.info? 24).map (fun i => (i.zero, i.size, i.bytes)) = some (some (.slice none 0 0), 1, 24) := by kernel_rfl
instance : Siz Try.prog 24 1 := siz_of inf_24
instance : Byt Try.prog 24 24 := byt_of inf_24
instance : Zer Try.prog 24 (.slice none 0 0) := zer_of inf_24
instance : Sca Try.prog 24 := ⟨_, Try.underlying24, rfl⟩
instance : Sli Try.prog 24 33 := ⟨Try.underlying24⟩
-- 25: []api.Request
instance : Sca Try.prog 26 := ⟨_, Try.underlying26, rfl⟩
instance : Sca Try.prog 29 := ⟨_, Try.underlying29, rfl⟩
instance : Sli Try.prog 29 70 := ⟨Try.underlying29⟩
-- 30: func(int) []api.Service
theorem inf_31 : (Try.prog.info? 31).map (fun i => (i.zero, i.size, i.bytes)) = some (some (.slice none 0 0), 1, 24) := by kernel_rfl
instance : Siz Try.prog 31 1 := siz_of inf_31
instance : Sca Try.prog 31 := ⟨_, Try.underlying31, rfl⟩
instance : Sli Try.prog 31 24 := ⟨Try.underlying31⟩
-- 32: struct { Name string; Kind int; Null bool; Text string; Sub []api.Got; Subs [][]api.Got }
theorem inf_33 : (Try.prog.info? 33).map (fun i => (i.zero, i.size, i.bytes)) = some (some (.agg #[(.string ⟨#[]⟩), (.int .i64 0), (.bool false), (.string ⟨#[]⟩), (.slice none 0 0), (.slice none 0 0)]), 6, 96) := by kernel_rfl
instance : Siz Try.prog 33 6 := siz_of inf_33
instance : Byt Try.prog 33 96 := byt_of inf_33
instance : Zer Try.prog 33 (.agg #[(.string ⟨#[]⟩), (.int .i64 0), (.bool false), (.string ⟨#[]⟩), (.slice none 0 0), (.slice none 0 0)]) := zer_of inf_33
instance : Stc Try.prog 33 := ⟨_, Try.underlying33⟩
instance : Fo Try.prog 33 0 0 9 := ⟨_, _, Try.underlying33, rfl, rfl, rfl, by kernel_rfl, by kernel_rfl⟩
instance : Fo Try.prog 33 1 1 3 := ⟨_, _, Try.underlying33, rfl, rfl, rfl, by kernel_rfl, by kernel_rfl⟩
instance : Fo Try.prog 33 2 2 4 := ⟨_, _, Try.underlying33, rfl, rfl, rfl, by kernel_rfl, by kernel_rfl⟩
instance : Fo Try.prog 33 3 3 9 := ⟨_, _, Try.underlying33, rfl, rfl, rfl, by kernel_rfl, by kernel_rfl⟩
instance : Fo Try.prog 33 4 4 24 := ⟨_, _, Try.underlying33, rfl, rfl, rfl, by kernel_rfl, by kernel_rfl⟩
instance : Fo Try.prog 33 5 5 31 := ⟨_, _, Try.underlying33, rfl, rfl, rfl, by kernel_rfl, by kernel_rfl⟩
-- 34: func(int, int) bool
instance : Sca Try.prog 35 := ⟨_, Try.underlying35, rfl⟩
instance : Sli Try.prog 35 102 := ⟨Try.underlying35⟩
-- 36: struct { Type string; Key string; Picks []api.Pick }
theorem inf_37 : (Try.prog.info? 37).map (fun i => (i.zero, i.size, i.bytes)) = some (some (.agg #[(.string ⟨#[]⟩), (.string ⟨#[]⟩), (.slice none 0 0)]), 3, 56) := by kernel_rfl
instance : Siz Try.prog 37 3 := siz_of inf_37
instance : Stc Try.prog 37 := ⟨_, Try.underlying37⟩
instance : Fo Try.prog 37 0 0 9 := ⟨_, _, Try.underlying37, rfl, rfl, rfl, by kernel_rfl, by kernel_rfl⟩
instance : Fo Try.prog 37 1 1 9 := ⟨_, _, Try.underlying37, rfl, rfl, rfl, by kernel_rfl, by kernel_rfl⟩
instance : Fo Try.prog 37 2 2 35 := ⟨_, _, Try.underlying37, rfl, rfl, rfl, by kernel_rfl, by kernel_rfl⟩
-- 39: func(api.Ask) (string, api.Errno)
theorem inf_41 : (Try.prog.info? 41).map (fun i => (i.zero, i.size, i.bytes)) = some (some (.agg #[(.int .i64 0), (.int .i64 0)]), 2, 16) := by kernel_rfl
instance : Siz Try.prog 41 2 := siz_of inf_41
instance : Zer Try.prog 41 (.agg #[(.int .i64 0), (.int .i64 0)]) := zer_of inf_41
instance : Stc Try.prog 41 := ⟨_, Try.underlying41⟩
instance : Fo Try.prog 41 0 0 26 := ⟨_, _, Try.underlying41, rfl, rfl, rfl, by kernel_rfl, by kernel_rfl⟩
instance : Sca Try.prog 47 := ⟨_, Try.underlying47, rfl⟩
instance : Sli Try.prog 47 83 := ⟨Try.underlying47⟩
-- 48: func([]api.Part, api.Ask) api.Errno
theorem inf_50 : (Try.prog.info? 50).map (fun i => (i.zero, i.size, i.bytes)) = some (some (.slice none 0 0), 1, 24) := by kernel_rfl
instance : Siz Try.prog 50 1 := siz_of inf_50
instance : Byt Try.prog 50 24 := byt_of inf_50
instance : Zer Try.prog 50 (.slice none 0 0) := zer_of inf_50
instance : Sca Try.prog 50 := ⟨_, Try.underlying50, rfl⟩
instance : Sli Try.prog 50 9 := ⟨Try.underlying50⟩
-- 51: struct { Service int; Type string; Keys []string; Fields []string }
instance : Sca Try.prog 60 := ⟨_, Try.underlying60, rfl⟩
instance : Sli Try.prog 60 62 := ⟨Try.underlying60⟩
-- 61: struct { Field string; Text string; Keys []string }
theorem inf_62 : (Try.prog.info? 62).map (fun i => (i.zero, i.size, i.bytes)) = some (some (.agg #[(.string ⟨#[]⟩), (.string ⟨#[]⟩), (.slice none 0 0)]), 3, 56) := by kernel_rfl
instance : Siz Try.prog 62 3 := siz_of inf_62
instance : Zer Try.prog 62 (.agg #[(.string ⟨#[]⟩), (.string ⟨#[]⟩), (.slice none 0 0)]) := zer_of inf_62
instance : Stc Try.prog 62 := ⟨_, Try.underlying62⟩
instance : Fo Try.prog 62 0 0 9 := ⟨_, _, Try.underlying62, rfl, rfl, rfl, by kernel_rfl, by kernel_rfl⟩
instance : Fo Try.prog 62 1 1 9 := ⟨_, _, Try.underlying62, rfl, rfl, rfl, by kernel_rfl, by kernel_rfl⟩
instance : Fo Try.prog 62 2 2 50 := ⟨_, _, Try.underlying62, rfl, rfl, rfl, by kernel_rfl, by kernel_rfl⟩
-- 63: func([]api.Service, api.Request) bool
theorem inf_65 : (Try.prog.info? 65).map (fun i => (i.zero, i.size, i.bytes)) = some (some (.agg #[(.string ⟨#[]⟩), (.string ⟨#[]⟩), (.slice none 0 0)]), 3, 56) := by kernel_rfl
instance : Siz Try.prog 65 3 := siz_of inf_65
instance : Zer Try.prog 65 (.agg #[(.string ⟨#[]⟩), (.string ⟨#[]⟩), (.slice none 0 0)]) := zer_of inf_65
instance : Stc Try.prog 65 := ⟨_, Try.underlying65⟩
instance : Fo Try.prog 65 0 0 9 := ⟨_, _, Try.underlying65, rfl, rfl, rfl, by kernel_rfl, by kernel_rfl⟩
instance : Fo Try.prog 65 1 1 9 := ⟨_, _, Try.underlying65, rfl, rfl, rfl, by kernel_rfl, by kernel_rfl⟩
instance : Fo Try.prog 65 2 2 60 := ⟨_, _, Try.underlying65, rfl, rfl, rfl, by kernel_rfl, by kernel_rfl⟩
-- 66: []api.Type
instance : Sca Try.prog 66 := ⟨_, Try.underlying66, rfl⟩
instance : Sli Try.prog 66 80 := ⟨Try.underlying66⟩
-- 67: []api.Change
instance : Sca Try.prog 67 := ⟨_, Try.underlying67, rfl⟩
instance : Sli Try.prog 67 109 := ⟨Try.underlying67⟩
-- 68: []api.Thing
instance : Sca Try.prog 68 := ⟨_, Try.underlying68, rfl⟩
instance : Sli Try.prog 68 65 := ⟨Try.underlying68⟩
-- 69: struct { Types []api.Type; Changes []api.Change; Things []api.Thing }
theorem inf_70 : (Try.prog.info? 70).map (fun i => (i.zero, i.size, i.bytes)) = some (some (.agg #[(.slice none 0 0), (.slice none 0 0), (.slice none 0 0)]), 3, 72) := by kernel_rfl
instance : Siz Try.prog 70 3 := siz_of inf_70
instance : Zer Try.prog 70 (.agg #[(.slice none 0 0), (.slice none 0 0), (.slice none 0 0)]) := zer_of inf_70
instance : Stc Try.prog 70 := ⟨_, Try.underlying70⟩
instance : Fo Try.prog 70 0 0 66 := ⟨_, _, Try.underlying70, rfl, rfl, rfl, by kernel_rfl, by kernel_rfl⟩
instance : Fo Try.prog 70 1 1 67 := ⟨_, _, Try.underlying70, rfl, rfl, rfl, by kernel_rfl, by kernel_rfl⟩
instance : Fo Try.prog 70 2 2 68 := ⟨_, _, Try.underlying70, rfl, rfl, rfl, by kernel_rfl, by kernel_rfl⟩
-- 71: func(int) bool
instance : IsPtr Try.prog 76 83 := ⟨Try.underlying76⟩
-- 77: func([]api.Part, string) *api.Part
theorem inf_78 : (Try.prog.info? 78).map (fun i => (i.zero, i.size, i.bytes)) = some (some (.slice none 0 0), 1, 24) := by kernel_rfl
instance : Siz Try.prog 78 1 := siz_of inf_78
instance : Sca Try.prog 78 := ⟨_, Try.underlying78, rfl⟩
instance : Sli Try.prog 78 86 := ⟨Try.underlying78⟩
-- 79: struct { Name string; Fields []api.Field }
theorem inf_80 : (Try.prog.info? 80).map (fun i => (i.zero, i.size, i.bytes)) = some (some (.agg #[(.string ⟨#[]⟩), (.slice none 0 0)]), 2, 40) := by kernel_rfl
instance : Siz Try.prog 80 2 := siz_of inf_80
instance : Byt Try.prog 80 40 := byt_of inf_80
instance : Zer Try.prog 80 (.agg #[(.string ⟨#[]⟩), (.slice none 0 0)]) := zer_of inf_80
instance : Stc Try.prog 80 := ⟨_, Try.underlying80⟩
instance : Fo Try.prog 80 0 0 9 := ⟨_, _, Try.underlying80, rfl, rfl, rfl, by kernel_rfl, by kernel_rfl⟩
instance : Fo Try.prog 80 1 1 78 := ⟨_, _, Try.underlying80, rfl, rfl, rfl, by kernel_rfl, by kernel_rfl⟩
-- 81: []api.Owner
theorem inf_81 : (Try.prog.info? 81).map (fun i => (i.zero, i.size, i.bytes)) = some (some (.slice none 0 0), 1, 24) := by kernel_rfl
instance : Siz Try.prog 81 1 := siz_of inf_81
instance : Sca Try.prog 81 := ⟨_, Try.underlying81, rfl⟩
instance : Sli Try.prog 81 89 := ⟨Try.underlying81⟩
-- 82: struct { Type api.Type; Owners []api.Owner; Homes []api.Owner }
theorem inf_83 : (Try.prog.info? 83).map (fun i => (i.zero, i.size, i.bytes)) = some (some (.agg #[(.string ⟨#[]⟩), (.slice none 0 0), (.slice none 0 0), (.slice none 0 0)]), 4, 88) := by kernel_rfl
instance : Siz Try.prog 83 4 := siz_of inf_83
instance : Byt Try.prog 83 88 := byt_of inf_83
instance : Zer Try.prog 83 (.agg #[(.string ⟨#[]⟩), (.slice none 0 0), (.slice none 0 0), (.slice none 0 0)]) := zer_of inf_83
instance : Stc Try.prog 83 := ⟨_, Try.underlying83⟩
instance : Fo Try.prog 83 0 0 80 := ⟨_, _, Try.underlying83, rfl, rfl, rfl, by kernel_rfl, by kernel_rfl⟩
instance : Fo Try.prog 83 1 2 81 := ⟨_, _, Try.underlying83, rfl, rfl, rfl, by kernel_rfl, by kernel_rfl⟩
instance : Fo Try.prog 83 2 3 81 := ⟨_, _, Try.underlying83, rfl, rfl, rfl, by kernel_rfl, by kernel_rfl⟩
-- 84: func([]api.Service, string) bool
theorem inf_86 : (Try.prog.info? 86).map (fun i => (i.zero, i.size, i.bytes)) = some (some (.agg #[(.string ⟨#[]⟩), (.int .i64 0), (.string ⟨#[]⟩)]), 3, 40) := by kernel_rfl
instance : Siz Try.prog 86 3 := siz_of inf_86
instance : Byt Try.prog 86 40 := byt_of inf_86
instance : Zer Try.prog 86 (.agg #[(.string ⟨#[]⟩), (.int .i64 0), (.string ⟨#[]⟩)]) := zer_of inf_86
instance : Stc Try.prog 86 := ⟨_, Try.underlying86⟩
instance : Fo Try.prog 86 0 0 9 := ⟨_, _, Try.underlying86, rfl, rfl, rfl, by kernel_rfl, by kernel_rfl⟩
instance : Fo Try.prog 86 1 1 3 := ⟨_, _, Try.underlying86, rfl, rfl, rfl, by kernel_rfl, by kernel_rfl⟩
instance : Fo Try.prog 86 2 2 9 := ⟨_, _, Try.underlying86, rfl, rfl, rfl, by kernel_rfl, by kernel_rfl⟩
-- 87: func([]api.Field, string) int
theorem inf_89 : (Try.prog.info? 89).map (fun i => (i.zero, i.size, i.bytes)) = some (some (.agg #[(.int .i64 0), (.string ⟨#[]⟩), (.string ⟨#[]⟩)]), 3, 40) := by kernel_rfl
instance : Siz Try.prog 89 3 := siz_of inf_89
instance : Byt Try.prog 89 40 := byt_of inf_89
instance : Zer Try.prog 89 (.agg #[(.int .i64 0), (.string ⟨#[]⟩), (.string ⟨#[]⟩)]) := zer_of inf_89
instance : Stc Try.prog 89 := ⟨_, Try.underlying89⟩
instance : Fo Try.prog 89 0 0 3 := ⟨_, _, Try.underlying89, rfl, rfl, rfl, by kernel_rfl, by kernel_rfl⟩
instance : Fo Try.prog 89 1 1 9 := ⟨_, _, Try.underlying89, rfl, rfl, rfl, by kernel_rfl, by kernel_rfl⟩
instance : Fo Try.prog 89 2 2 9 := ⟨_, _, Try.underlying89, rfl, rfl, rfl, by kernel_rfl, by kernel_rfl⟩
-- 90: []api.Seen
instance : Sli Try.prog 90 94 := ⟨Try.underlying90⟩
-- 92: func([]api.Type, []api.Change) ([]api.Seen, api.Fault)
theorem inf_94 : (Try.prog.info? 94).map (fun i => (i.zero, i.size, i.bytes)) = some (some (.agg #[(.string ⟨#[]⟩), (.slice none 0 0), (.string ⟨#[]⟩), (.slice none 0 0)]), 4, 80) := by kernel_rfl
instance : Siz Try.prog 94 4 := siz_of inf_94
instance : Byt Try.prog 94 80 := byt_of inf_94
instance : Zer Try.prog 94 (.agg #[(.string ⟨#[]⟩), (.slice none 0 0), (.string ⟨#[]⟩), (.slice none 0 0)]) := zer_of inf_94
instance : Stc Try.prog 94 := ⟨_, Try.underlying94⟩
instance : Fo Try.prog 94 0 0 80 := ⟨_, _, Try.underlying94, rfl, rfl, rfl, by kernel_rfl, by kernel_rfl⟩
instance : Fo Try.prog 94 1 2 9 := ⟨_, _, Try.underlying94, rfl, rfl, rfl, by kernel_rfl, by kernel_rfl⟩
instance : Fo Try.prog 94 2 3 50 := ⟨_, _, Try.underlying94, rfl, rfl, rfl, by kernel_rfl, by kernel_rfl⟩
-- 95: func([]api.Service) bool
theorem inf_102 : (Try.prog.info? 102).map (fun i => (i.zero, i.size, i.bytes)) = some (some (.agg #[(.string ⟨#[]⟩), (.string ⟨#[]⟩), (.slice none 0 0)]), 3, 56) := by kernel_rfl
instance : Siz Try.prog 102 3 := siz_of inf_102
instance : Zer Try.prog 102 (.agg #[(.string ⟨#[]⟩), (.string ⟨#[]⟩), (.slice none 0 0)]) := zer_of inf_102
instance : Stc Try.prog 102 := ⟨_, Try.underlying102⟩
instance : Fo Try.prog 102 0 0 9 := ⟨_, _, Try.underlying102, rfl, rfl, rfl, by kernel_rfl, by kernel_rfl⟩
instance : Fo Try.prog 102 1 1 9 := ⟨_, _, Try.underlying102, rfl, rfl, rfl, by kernel_rfl, by kernel_rfl⟩
instance : Fo Try.prog 102 2 2 35 := ⟨_, _, Try.underlying102, rfl, rfl, rfl, by kernel_rfl, by kernel_rfl⟩
-- 103: func([]api.Service, api.Ask, int, string) bool
instance : Sli Try.prog 105 5 := ⟨Try.underlying105⟩
-- 106: func([]api.Service, api.Ask) ([]api.Got, []api.Request, api.Errno)
theorem inf_109 : (Try.prog.info? 109).map (fun i => (i.zero, i.size, i.bytes)) = some (some (.agg #[(.int .i64 0), (.string ⟨#[]⟩), (.string ⟨#[]⟩), (.string ⟨#[]⟩)]), 4, 56) := by kernel_rfl
instance : Siz Try.prog 109 4 := siz_of inf_109
instance : Zer Try.prog 109 (.agg #[(.int .i64 0), (.string ⟨#[]⟩), (.string ⟨#[]⟩), (.string ⟨#[]⟩)]) := zer_of inf_109
instance : Stc Try.prog 109 := ⟨_, Try.underlying109⟩
instance : Fo Try.prog 109 0 0 3 := ⟨_, _, Try.underlying109, rfl, rfl, rfl, by kernel_rfl, by kernel_rfl⟩
instance : Fo Try.prog 109 1 1 9 := ⟨_, _, Try.underlying109, rfl, rfl, rfl, by kernel_rfl, by kernel_rfl⟩
instance : Fo Try.prog 109 2 2 9 := ⟨_, _, Try.underlying109, rfl, rfl, rfl, by kernel_rfl, by kernel_rfl⟩
instance : Fo Try.prog 109 3 3 9 := ⟨_, _, Try.underlying109, rfl, rfl, rfl, by kernel_rfl, by kernel_rfl⟩
-- 110: func(api.Pick) string
theorem inf_136 : (Try.prog.info? 136).map (fun i => (i.zero, i.size, i.bytes)) = some (some (.pointer none), 1, 8) := by kernel_rfl
instance : Siz Try.prog 136 1 := siz_of inf_136
instance : Zer Try.prog 136 (.pointer none) := zer_of inf_136
instance : Sca Try.prog 136 := ⟨_, Try.underlying136, rfl⟩
instance : IsPtr Try.prog 136 65 := ⟨Try.underlying136⟩
-- 137: func(*api.Service, string, string) *api.Thing
theorem inf_144 : (Try.prog.info? 144).map (fun i => (i.zero, i.size, i.bytes)) = some (some (.slice none 0 0), 1, 24) := by kernel_rfl
instance : Siz Try.prog 144 1 := siz_of inf_144
instance : Sca Try.prog 144 := ⟨_, Try.underlying144, rfl⟩
instance : Sli Try.prog 144 50 := ⟨Try.underlying144⟩
-- 145: struct { Own []string; Called []string; Fields [][]string }
theorem inf_146 : (Try.prog.info? 146).map (fun i => (i.zero, i.size, i.bytes)) = some (some (.agg #[(.slice none 0 0), (.slice none 0 0), (.slice none 0 0)]), 3, 72) := by kernel_rfl
instance : Siz Try.prog 146 3 := siz_of inf_146
instance : Zer Try.prog 146 (.agg #[(.slice none 0 0), (.slice none 0 0), (.slice none 0 0)]) := zer_of inf_146
instance : Stc Try.prog 146 := ⟨_, Try.underlying146⟩
instance : Fo Try.prog 146 0 0 50 := ⟨_, _, Try.underlying146, rfl, rfl, rfl, by kernel_rfl, by kernel_rfl⟩
instance : Fo Try.prog 146 1 1 50 := ⟨_, _, Try.underlying146, rfl, rfl, rfl, by kernel_rfl, by kernel_rfl⟩
instance : Fo Try.prog 146 2 2 144 := ⟨_, _, Try.underlying146, rfl, rfl, rfl, by kernel_rfl, by kernel_rfl⟩
-- 148: func([]api.Type, []api.Change) (stitchref1.Seen, api.Fault)
instance : Sli Try.prog 159 94 := ⟨Try.underlying159⟩
-- 160: func([]api.Field) []api.Field
instance : Fo Try.prog 165 0 0 29 := ⟨_, _, Try.underlying165, rfl, rfl, rfl, by kernel_rfl, by kernel_rfl⟩
instance : Fo Try.prog 165 1 1 47 := ⟨_, _, Try.underlying165, rfl, rfl, rfl, by kernel_rfl, by kernel_rfl⟩
-- 166: func(*api.Part, string) bool
instance : IsPtr Try.prog 188 80 := ⟨Try.underlying188⟩
-- 190: func([]api.Part, string, func(api.Part, string) int) (int, bool)
theorem inf_205 : (Try.prog.info? 205).map (fun i => (i.zero, i.size, i.bytes)) = some (some (.pointer none), 1, 8) := by kernel_rfl
instance : Siz Try.prog 205 1 := siz_of inf_205
instance : Zer Try.prog 205 (.pointer none) := zer_of inf_205
instance : Sca Try.prog 205 := ⟨_, Try.underlying205, rfl⟩
instance : IsInt Try.prog 222 .u64 := ⟨Try.underlying222⟩
-- 223: func([]api.Part, int)
instance : Fun Try.prog 23 := ⟨_, Try.func23, by kernel_rfl, rfl⟩ -- stitchery/query.Wrong
instance : Fun Try.prog 24 := ⟨_, Try.func24, by kernel_rfl, rfl⟩ -- stitchery/query.Check
instance : Fun Try.prog 27 := ⟨_, Try.func27, by kernel_rfl, rfl⟩ -- stitchery/merge.Wrong
instance : Fun Try.prog 28 := ⟨_, Try.func28, by kernel_rfl, rfl⟩ -- stitchery/merge.All
instance : Fun Try.prog 29 := ⟨_, Try.func29, by kernel_rfl, rfl⟩ -- stitchery/stitchref1.All
instance : Fun Try.prog 31 := ⟨_, Try.func31, by kernel_rfl, rfl⟩ -- stitchery/stitchref1.WrongServices
instance : Fun Try.prog 32 := ⟨_, Try.func32, by kernel_rfl, rfl⟩ -- stitchery/merge.Find
instance : Fun Try.prog 33 := ⟨_, Try.func33, by kernel_rfl, rfl⟩ -- stitchery/stitchref1.Part
instance : Fun Try.prog 35 := ⟨_, Try.func35, by kernel_rfl, rfl⟩ -- stitchery/schema.Field
instance : Fun Try.prog 36 := ⟨_, Try.func36, by kernel_rfl, rfl⟩ -- stitchery/change.See
instance : Fun Try.prog 37 := ⟨_, Try.func37, by kernel_rfl, rfl⟩ -- stitchery/mean.Mean
instance : Fun Try.prog 38 := ⟨_, Try.func38, by kernel_rfl, rfl⟩ -- stitchery/stitchref4.Mean
instance : Fun Try.prog 39 := ⟨_, Try.func39, by kernel_rfl, rfl⟩ -- stitchery/stitchref4.SameGot
instance : Fun Try.prog 44 := ⟨_, Try.func44, by kernel_rfl, rfl⟩ -- stitchery/query.Called
instance : Fun Try.prog 56 := ⟨_, Try.func56, by kernel_rfl, rfl⟩ -- stitchery/schema.Named
instance : Fun Try.prog 57 := ⟨_, Try.func57, by kernel_rfl, rfl⟩ -- stitchery/query.shape
instance : Fun Try.prog 58 := ⟨_, Try.func58, by kernel_rfl, rfl⟩ -- stitchery/query.picks
instance : Fun Try.prog 63 := ⟨_, Try.func63, by kernel_rfl, rfl⟩ -- stitchery/schema.Things
instance : Fun Try.prog 64 := ⟨_, Try.func64, by kernel_rfl, rfl⟩ -- stitchery/merge.add
instance : Fun Try.prog 65 := ⟨_, Try.func65, by kernel_rfl, rfl⟩ -- stitchery/stitchref1.See
instance : Fun Try.prog 66 := ⟨_, Try.func66, by kernel_rfl, rfl⟩ -- (*stitchery/stitchref1.Seen).Types
instance : Fun Try.prog 67 := ⟨_, Try.func67, by kernel_rfl, rfl⟩ -- stitchery/stitchref1.Has
instance : Fun Try.prog 69 := ⟨_, Try.func69, by kernel_rfl, rfl⟩ -- stitchery/stitchref1.WrongThings
instance : Fun Try.prog 70 := ⟨_, Try.func70, by kernel_rfl, rfl⟩ -- slices.IndexFunc[[]stitchery/api.Part,stitchery/api.Part]
instance : Fun Try.prog 71 := ⟨_, Try.func71, by kernel_rfl, rfl⟩ -- stitchery/merge.Find$1
instance : Fun Try.prog 73 := ⟨_, Try.func73, by kernel_rfl, rfl⟩ -- slices.IndexFunc[[]stitchery/api.Field,stitchery/api.Field]
instance : Fun Try.prog 74 := ⟨_, Try.func74, by kernel_rfl, rfl⟩ -- stitchery/schema.Field$1
instance : Fun Try.prog 75 := ⟨_, Try.func75, by kernel_rfl, rfl⟩ -- stitchery/schema.Wrong
instance : Fun Try.prog 76 := ⟨_, Try.func76, by kernel_rfl, rfl⟩ -- slices.Clone[[]stitchery/api.Field,stitchery/api.Field]
instance : Fun Try.prog 77 := ⟨_, Try.func77, by kernel_rfl, rfl⟩ -- (stitchery/change.view).do
instance : Fun Try.prog 78 := ⟨_, Try.func78, by kernel_rfl, rfl⟩ -- (*stitchery/mean.whole).there
instance : Fun Try.prog 79 := ⟨_, Try.func79, by kernel_rfl, rfl⟩ -- (*stitchery/mean.whole).thing
instance : Fun Try.prog 80 := ⟨_, Try.func80, by kernel_rfl, rfl⟩ -- stitchery/stitchref4.Check
instance : Fun Try.prog 81 := ⟨_, Try.func81, by kernel_rfl, rfl⟩ -- stitchery/stitchref4.There
instance : Fun Try.prog 82 := ⟨_, Try.func82, by kernel_rfl, rfl⟩ -- stitchery/stitchref4.Get
instance : Fun Try.prog 84 := ⟨_, Try.func84, by kernel_rfl, rfl⟩ -- stitchery/stitchref4.Called
instance : Fun Try.prog 90 := ⟨_, Try.func90, by kernel_rfl, rfl⟩ -- slices.ContainsFunc[[]stitchery/api.Pick,stitchery/api.Pick]
instance : Fun Try.prog 91 := ⟨_, Try.func91, by kernel_rfl, rfl⟩ -- stitchery/query.picks$1
instance : Fun Try.prog 92 := ⟨_, Try.func92, by kernel_rfl, rfl⟩ -- stitchery/schema.Find
instance : Fun Try.prog 94 := ⟨_, Try.func94, by kernel_rfl, rfl⟩ -- slices.IndexFunc[[]stitchery/api.Thing,stitchery/api.Thing]
instance : Fun Try.prog 96 := ⟨_, Try.func96, by kernel_rfl, rfl⟩ -- slices.ContainsFunc[[]stitchery/api.Thing,stitchery/api.Thing]
instance : Fun Try.prog 97 := ⟨_, Try.func97, by kernel_rfl, rfl⟩ -- stitchery/schema.Things$1
instance : Fun Try.prog 98 := ⟨_, Try.func98, by kernel_rfl, rfl⟩ -- stitchery/schema.vals
instance : Fun Try.prog 99 := ⟨_, Try.func99, by kernel_rfl, rfl⟩ -- slices.BinarySearchFunc[[]stitchery/api.Part,stitchery/api.Part,string]
instance : Fun Try.prog 100 := ⟨_, Try.func100, by kernel_rfl, rfl⟩ -- stitchery/merge.add$1
instance : Fun Try.prog 101 := ⟨_, Try.func101, by kernel_rfl, rfl⟩ -- cmp.Compare[string]
instance : Fun Try.prog 102 := ⟨_, Try.func102, by kernel_rfl, rfl⟩ -- slices.Insert[[]stitchery/api.Part,stitchery/api.Part]
instance : Fun Try.prog 103 := ⟨_, Try.func103, by kernel_rfl, rfl⟩ -- stitchery/stitchref1.Wrong
instance : Fun Try.prog 104 := ⟨_, Try.func104, by kernel_rfl, rfl⟩ -- (*stitchery/stitchref1.Seen).Do
instance : Fun Try.prog 105 := ⟨_, Try.func105, by kernel_rfl, rfl⟩ -- stitchery/stitchref1.place
instance : Fun Try.prog 106 := ⟨_, Try.func106, by kernel_rfl, rfl⟩ -- stitchery/stitchref1.At
instance : Fun Try.prog 107 := ⟨_, Try.func107, by kernel_rfl, rfl⟩ -- stitchery/stitchref1.Type
instance : Fun Try.prog 108 := ⟨_, Try.func108, by kernel_rfl, rfl⟩ -- stitchery/stitchref1.Named
instance : Fun Try.prog 109 := ⟨_, Try.func109, by kernel_rfl, rfl⟩ -- stitchery/stitchref1.Thing
instance : Fun Try.prog 110 := ⟨_, Try.func110, by kernel_rfl, rfl⟩ -- stitchery/stitchref1.WrongVals
instance : Fun Try.prog 111 := ⟨_, Try.func111, by kernel_rfl, rfl⟩ -- stitchery/schema.fields
instance : Fun Try.prog 112 := ⟨_, Try.func112, by kernel_rfl, rfl⟩ -- (stitchery/change.view).find
instance : Fun Try.prog 113 := ⟨_, Try.func113, by kernel_rfl, rfl⟩ -- (stitchery/change.view).call
instance : Fun Try.prog 114 := ⟨_, Try.func114, by kernel_rfl, rfl⟩ -- slices.Delete[[]stitchery/api.Field,stitchery/api.Field]
instance : Fun Try.prog 115 := ⟨_, Try.func115, by kernel_rfl, rfl⟩ -- slices.Delete[[]string,string]
instance : Fun Try.prog 116 := ⟨_, Try.func116, by kernel_rfl, rfl⟩ -- (*stitchery/mean.whole).find
instance : Fun Try.prog 117 := ⟨_, Try.func117, by kernel_rfl, rfl⟩ -- (*stitchery/mean.whole).pick
instance : Fun Try.prog 118 := ⟨_, Try.func118, by kernel_rfl, rfl⟩ -- stitchery/stitchref4.Wrong
instance : Fun Try.prog 119 := ⟨_, Try.func119, by kernel_rfl, rfl⟩ -- stitchery/stitchref4.Goes
instance : Fun Try.prog 124 := ⟨_, Try.func124, by kernel_rfl, rfl⟩ -- slices.IndexFunc[[]stitchery/api.Pick,stitchery/api.Pick]
instance : Fun Try.prog 125 := ⟨_, Try.func125, by kernel_rfl, rfl⟩ -- slices.IndexFunc[[]stitchery/api.Type,stitchery/api.Type]
instance : Fun Try.prog 126 := ⟨_, Try.func126, by kernel_rfl, rfl⟩ -- stitchery/schema.Find$1
instance : Fun Try.prog 128 := ⟨_, Try.func128, by kernel_rfl, rfl⟩ -- slices.ContainsFunc[[]string,string]
instance : Fun Try.prog 129 := ⟨_, Try.func129, by kernel_rfl, rfl⟩ -- stitchery/schema.vals$1
instance : Fun Try.prog 130 := ⟨_, Try.func130, by kernel_rfl, rfl⟩ -- cmp.isNaN[string]
instance : Fun Try.prog 133 := ⟨_, Try.func133, by kernel_rfl, rfl⟩ -- stitchery/stitchref1.Wrong$1
instance : Fun Try.prog 134 := ⟨_, Try.func134, by kernel_rfl, rfl⟩ -- slices.IndexFunc[stitchery/change.view,stitchery/api.Seen]
instance : Fun Try.prog 135 := ⟨_, Try.func135, by kernel_rfl, rfl⟩ -- (stitchery/change.view).find$1
instance : Fun Try.prog 136 := ⟨_, Try.func136, by kernel_rfl, rfl⟩ -- (*stitchery/mean.whole).find$1
instance : Fun Try.prog 137 := ⟨_, Try.func137, by kernel_rfl, rfl⟩ -- (*stitchery/mean.whole).val
instance : Fun Try.prog 138 := ⟨_, Try.func138, by kernel_rfl, rfl⟩ -- stitchery/stitchref4.Shape
instance : Fun Try.prog 140 := ⟨_, Try.func140, by kernel_rfl, rfl⟩ -- slices.IndexFunc[[]string,string]
instance : Fun Try.prog 142 := ⟨_, Try.func142, by kernel_rfl, rfl⟩ -- slices.IndexFunc[[]stitchery/api.Val,stitchery/api.Val]
instance : Fun Try.prog 143 := ⟨_, Try.func143, by kernel_rfl, rfl⟩ -- (*stitchery/mean.whole).val$1
theorem mixed : Try.prog.follows .mixedOrders = true := by kernel_rfl
end Go.Proofs.Ytgckpmcdlciibab
