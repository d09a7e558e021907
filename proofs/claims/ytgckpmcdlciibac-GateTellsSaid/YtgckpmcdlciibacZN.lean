/- The facts on the program's types and functions, off the translation, by program (wip/inst.py). -/
import Derived.Test.YtgckpmcdlciibacRows
import Derived.Test.YtgckpmcdlciibacZA
namespace Go.Proofs.Ytgckpmcdlciibac
theorem siz_of {P : Program} {t : TypeId} {z : Value} {k b : Nat} (h : (P.info? t).map (fun i => (i.zero, i.size, i.bytes)) = some (some z, k, b)) : Siz P t k := ⟨by
  cases hi : P.info? t with
  | none => rw [hi] at h; cases h
  | some i => rw [hi] at h; simp at h; exact ⟨i, rfl, h.2.1⟩⟩
theorem byt_of {P : Program} {t : TypeId} {z : Value} {k b : Nat} (h : (P.info? t).map (fun i => (i.zero, i.size, i.bytes)) = some (some z, k, b)) : Byt P t b := ⟨by
  cases hi : P.info? t with
  | none => rw [hi] at h; cases h
  | some i => rw [hi] at h; simp at h; exact ⟨i, rfl, h.2.2⟩⟩
theorem zer_of {P : Program} {t : TypeId} {z : Value} {k b : Nat} (h : (P.info? t).map (fun i => (i.zero, i.size, i.bytes)) = some (some z, k, b)) : Zer P t z := ⟨by
  cases hi : P.info? t with
  | none => rw [hi] at h; cases h
  | some i => rw [hi] at h; simp at h; exact ⟨i, rfl, h.1⟩⟩
-- 1: func()
theorem inf_3 : (Try.prog.info? 3).map (fun i => (i.zero, i.size, i.bytes)) = some (some (.int .i64 0), 1, 8) := by kernel_rfl
instance : Siz Try.prog 3 1 := siz_of inf_3
instance : Zer Try.prog 3 (.int .i64 0) := zer_of inf_3
instance : Sca Try.prog 3 := ⟨_, Try.underlying3, rfl⟩
instance : IsInt Try.prog 3 .i64 := ⟨Try.underlying3⟩
-- 4: bool
theorem inf_4 : (Try.prog.info? 4).map (fun i => (i.zero, i.size, i.bytes)) = some (some (.bool false), 1, 1) := by kernel_rfl
instance : Siz Try.prog 4 1 := siz_of inf_4
instance : Byt Try.prog 4 1 := byt_of inf_4
instance : Zer Try.prog 4 (.bool false) := zer_of inf_4
instance : Sca Try.prog 4 := ⟨_, Try.underlying4, rfl⟩
-- 5: uint8
theorem inf_5 : (Try.prog.info? 5).map (fun i => (i.zero, i.size, i.bytes)) = some (some (.int .u8 0), 1, 1) := by kernel_rfl
instance : Siz Try.prog 5 1 := siz_of inf_5
instance : Sca Try.prog 5 := ⟨_, Try.underlying5, rfl⟩
instance : IsInt Try.prog 5 .u8 := ⟨Try.underlying5⟩
-- 9: string
theorem inf_9 : (Try.prog.info? 9).map (fun i => (i.zero, i.size, i.bytes)) = some (some (.string ⟨#[]⟩), 1, 16) := by kernel_rfl
instance : Siz Try.prog 9 1 := siz_of inf_9
instance : Byt Try.prog 9 16 := byt_of inf_9
instance : Zer Try.prog 9 (.string ⟨#[]⟩) := zer_of inf_9
instance : Sca Try.prog 9 := ⟨_, Try.underlying9, rfl⟩
instance : IsStr Try.prog 9 := ⟨Try.underlying9⟩
-- 19: maps.unhashableTypeError
instance : Sca Try.prog 22 := ⟨_, Try.underlying22, rfl⟩
instance : Sli Try.prog 22 31 := ⟨Try.underlying22⟩
-- 23: []api.Pick
instance : Sca Try.prog 23 := ⟨_, Try.underlying23, rfl⟩
instance : Sli Try.prog 23 87 := ⟨Try.underlying23⟩
-- 24: struct { Type string; Key string; Picks []api.Pick }
theorem inf_25 : (Try.prog.info? 25).map (fun i => (i.zero, i.size, i.bytes)) = some (some (.agg #[(.string ⟨#[]⟩), (.string ⟨#[]⟩), (.slice none 0 0)]), 3, 56) := by kernel_rfl
instance : Siz Try.prog 25 3 := siz_of inf_25
instance : Stc Try.prog 25 := ⟨_, Try.underlying25⟩
instance : Fo Try.prog 25 0 0 9 := ⟨_, _, Try.underlying25, rfl, rfl, rfl, by kernel_rfl, by kernel_rfl⟩
instance : Fo Try.prog 25 1 1 9 := ⟨_, _, Try.underlying25, rfl, rfl, rfl, by kernel_rfl, by kernel_rfl⟩
instance : Fo Try.prog 25 2 2 23 := ⟨_, _, Try.underlying25, rfl, rfl, rfl, by kernel_rfl, by kernel_rfl⟩
-- 26: func() bool
instance : Sca Try.prog 27 := ⟨_, Try.underlying27, rfl⟩
instance : Sli Try.prog 27 57 := ⟨Try.underlying27⟩
-- 28: []api.Change
instance : Sca Try.prog 28 := ⟨_, Try.underlying28, rfl⟩
instance : Sli Try.prog 28 71 := ⟨Try.underlying28⟩
-- 29: []api.Thing
instance : Sca Try.prog 29 := ⟨_, Try.underlying29, rfl⟩
instance : Sli Try.prog 29 64 := ⟨Try.underlying29⟩
-- 30: struct { Types []api.Type; Changes []api.Change; Things []api.Thing }
theorem inf_31 : (Try.prog.info? 31).map (fun i => (i.zero, i.size, i.bytes)) = some (some (.agg #[(.slice none 0 0), (.slice none 0 0), (.slice none 0 0)]), 3, 72) := by kernel_rfl
instance : Siz Try.prog 31 3 := siz_of inf_31
instance : Zer Try.prog 31 (.agg #[(.slice none 0 0), (.slice none 0 0), (.slice none 0 0)]) := zer_of inf_31
instance : Stc Try.prog 31 := ⟨_, Try.underlying31⟩
instance : Fo Try.prog 31 0 0 27 := ⟨_, _, Try.underlying31, rfl, rfl, rfl, by kernel_rfl, by kernel_rfl⟩
instance : Fo Try.prog 31 1 1 28 := ⟨_, _, Try.underlying31, rfl, rfl, rfl, by kernel_rfl, by kernel_rfl⟩
instance : Fo Try.prog 31 2 2 29 := ⟨_, _, Try.underlying31, rfl, rfl, rfl, by kernel_rfl, by kernel_rfl⟩
-- 32: []api.Part
instance : Sca Try.prog 32 := ⟨_, Try.underlying32, rfl⟩
instance : Sli Try.prog 32 99 := ⟨Try.underlying32⟩
-- 33: api.Errno
instance : Sca Try.prog 33 := ⟨_, Try.underlying33, rfl⟩
theorem inf_35 : (Try.prog.info? 35).map (fun i => (i.zero, i.size, i.bytes)) = some (some (.agg #[(.int .i64 0), (.int .i64 0)]), 2, 16) := by kernel_rfl
instance : Siz Try.prog 35 2 := siz_of inf_35
instance : Zer Try.prog 35 (.agg #[(.int .i64 0), (.int .i64 0)]) := zer_of inf_35
instance : Stc Try.prog 35 := ⟨_, Try.underlying35⟩
instance : Fo Try.prog 35 0 0 33 := ⟨_, _, Try.underlying35, rfl, rfl, rfl, by kernel_rfl, by kernel_rfl⟩
theorem inf_38 : (Try.prog.info? 38).map (fun i => (i.zero, i.size, i.bytes)) = some (some (.slice none 0 0), 1, 24) := by kernel_rfl
instance : Siz Try.prog 38 1 := siz_of inf_38
instance : Byt Try.prog 38 24 := byt_of inf_38
instance : Zer Try.prog 38 (.slice none 0 0) := zer_of inf_38
instance : Sca Try.prog 38 := ⟨_, Try.underlying38, rfl⟩
instance : Sli Try.prog 38 77 := ⟨Try.underlying38⟩
-- 40: func([]api.Service, api.Ask) ([]api.Got, api.Errno)
theorem inf_43 : (Try.prog.info? 43).map (fun i => (i.zero, i.size, i.bytes)) = some (some (.slice none 0 0), 1, 24) := by kernel_rfl
instance : Siz Try.prog 43 1 := siz_of inf_43
instance : Sca Try.prog 43 := ⟨_, Try.underlying43, rfl⟩
instance : Sli Try.prog 43 49 := ⟨Try.underlying43⟩
-- 45: func([]api.Service, api.Ask) ([]api.Got, []api.Request, api.Errno)
theorem inf_47 : (Try.prog.info? 47).map (fun i => (i.zero, i.size, i.bytes)) = some (some (.slice none 0 0), 1, 24) := by kernel_rfl
instance : Siz Try.prog 47 1 := siz_of inf_47
instance : Byt Try.prog 47 24 := byt_of inf_47
instance : Zer Try.prog 47 (.slice none 0 0) := zer_of inf_47
instance : Sca Try.prog 47 := ⟨_, Try.underlying47, rfl⟩
instance : Sli Try.prog 47 9 := ⟨Try.underlying47⟩
-- 48: struct { Service int; Type string; Keys []string; Fields []string }
theorem inf_49 : (Try.prog.info? 49).map (fun i => (i.zero, i.size, i.bytes)) = some (some (.agg #[(.int .i64 0), (.string ⟨#[]⟩), (.slice none 0 0), (.slice none 0 0)]), 4, 72) := by kernel_rfl
instance : Siz Try.prog 49 4 := siz_of inf_49
instance : Byt Try.prog 49 72 := byt_of inf_49
instance : Zer Try.prog 49 (.agg #[(.int .i64 0), (.string ⟨#[]⟩), (.slice none 0 0), (.slice none 0 0)]) := zer_of inf_49
instance : Stc Try.prog 49 := ⟨_, Try.underlying49⟩
instance : Fo Try.prog 49 0 0 3 := ⟨_, _, Try.underlying49, rfl, rfl, rfl, by kernel_rfl, by kernel_rfl⟩
instance : Fo Try.prog 49 1 1 9 := ⟨_, _, Try.underlying49, rfl, rfl, rfl, by kernel_rfl, by kernel_rfl⟩
instance : Fo Try.prog 49 2 2 47 := ⟨_, _, Try.underlying49, rfl, rfl, rfl, by kernel_rfl, by kernel_rfl⟩
instance : Fo Try.prog 49 3 3 47 := ⟨_, _, Try.underlying49, rfl, rfl, rfl, by kernel_rfl, by kernel_rfl⟩
-- 50: func([]api.Service, api.Request) api.Errno
instance : Sli Try.prog 52 59 := ⟨Try.underlying52⟩
-- 54: func([]api.Type, []api.Change) ([]api.Seen, api.Fault)
theorem inf_55 : (Try.prog.info? 55).map (fun i => (i.zero, i.size, i.bytes)) = some (some (.slice none 0 0), 1, 24) := by kernel_rfl
instance : Siz Try.prog 55 1 := siz_of inf_55
instance : Sca Try.prog 55 := ⟨_, Try.underlying55, rfl⟩
instance : Sli Try.prog 55 68 := ⟨Try.underlying55⟩
-- 56: struct { Name string; Fields []api.Field }
theorem inf_57 : (Try.prog.info? 57).map (fun i => (i.zero, i.size, i.bytes)) = some (some (.agg #[(.string ⟨#[]⟩), (.slice none 0 0)]), 2, 40) := by kernel_rfl
instance : Siz Try.prog 57 2 := siz_of inf_57
instance : Byt Try.prog 57 40 := byt_of inf_57
instance : Zer Try.prog 57 (.agg #[(.string ⟨#[]⟩), (.slice none 0 0)]) := zer_of inf_57
instance : Stc Try.prog 57 := ⟨_, Try.underlying57⟩
instance : Fo Try.prog 57 0 0 9 := ⟨_, _, Try.underlying57, rfl, rfl, rfl, by kernel_rfl, by kernel_rfl⟩
instance : Fo Try.prog 57 1 1 55 := ⟨_, _, Try.underlying57, rfl, rfl, rfl, by kernel_rfl, by kernel_rfl⟩
-- 58: struct { Type api.Type; Own string; Fields []string }
theorem inf_59 : (Try.prog.info? 59).map (fun i => (i.zero, i.size, i.bytes)) = some (some (.agg #[(.string ⟨#[]⟩), (.slice none 0 0), (.string ⟨#[]⟩), (.slice none 0 0)]), 4, 80) := by kernel_rfl
instance : Siz Try.prog 59 4 := siz_of inf_59
instance : Byt Try.prog 59 80 := byt_of inf_59
instance : Zer Try.prog 59 (.agg #[(.string ⟨#[]⟩), (.slice none 0 0), (.string ⟨#[]⟩), (.slice none 0 0)]) := zer_of inf_59
instance : Stc Try.prog 59 := ⟨_, Try.underlying59⟩
instance : Fo Try.prog 59 0 0 57 := ⟨_, _, Try.underlying59, rfl, rfl, rfl, by kernel_rfl, by kernel_rfl⟩
instance : Fo Try.prog 59 1 2 9 := ⟨_, _, Try.underlying59, rfl, rfl, rfl, by kernel_rfl, by kernel_rfl⟩
instance : Fo Try.prog 59 2 3 47 := ⟨_, _, Try.underlying59, rfl, rfl, rfl, by kernel_rfl, by kernel_rfl⟩
-- 60: map[int]bool
theorem inf_62 : (Try.prog.info? 62).map (fun i => (i.zero, i.size, i.bytes)) = some (some (.slice none 0 0), 1, 24) := by kernel_rfl
instance : Siz Try.prog 62 1 := siz_of inf_62
instance : Byt Try.prog 62 24 := byt_of inf_62
instance : Zer Try.prog 62 (.slice none 0 0) := zer_of inf_62
instance : Sca Try.prog 62 := ⟨_, Try.underlying62, rfl⟩
instance : Sli Try.prog 62 73 := ⟨Try.underlying62⟩
-- 63: struct { Type string; Key string; Vals []api.Val }
theorem inf_64 : (Try.prog.info? 64).map (fun i => (i.zero, i.size, i.bytes)) = some (some (.agg #[(.string ⟨#[]⟩), (.string ⟨#[]⟩), (.slice none 0 0)]), 3, 56) := by kernel_rfl
instance : Siz Try.prog 64 3 := siz_of inf_64
instance : Zer Try.prog 64 (.agg #[(.string ⟨#[]⟩), (.string ⟨#[]⟩), (.slice none 0 0)]) := zer_of inf_64
instance : Stc Try.prog 64 := ⟨_, Try.underlying64⟩
instance : Fo Try.prog 64 0 0 9 := ⟨_, _, Try.underlying64, rfl, rfl, rfl, by kernel_rfl, by kernel_rfl⟩
instance : Fo Try.prog 64 1 1 9 := ⟨_, _, Try.underlying64, rfl, rfl, rfl, by kernel_rfl, by kernel_rfl⟩
instance : Fo Try.prog 64 2 2 62 := ⟨_, _, Try.underlying64, rfl, rfl, rfl, by kernel_rfl, by kernel_rfl⟩
-- 65: func([]api.Service, api.Ask, int, int) bool
theorem inf_68 : (Try.prog.info? 68).map (fun i => (i.zero, i.size, i.bytes)) = some (some (.agg #[(.string ⟨#[]⟩), (.int .i64 0), (.string ⟨#[]⟩)]), 3, 40) := by kernel_rfl
instance : Siz Try.prog 68 3 := siz_of inf_68
instance : Byt Try.prog 68 40 := byt_of inf_68
instance : Zer Try.prog 68 (.agg #[(.string ⟨#[]⟩), (.int .i64 0), (.string ⟨#[]⟩)]) := zer_of inf_68
instance : Stc Try.prog 68 := ⟨_, Try.underlying68⟩
instance : Fo Try.prog 68 0 0 9 := ⟨_, _, Try.underlying68, rfl, rfl, rfl, by kernel_rfl, by kernel_rfl⟩
instance : Fo Try.prog 68 1 1 3 := ⟨_, _, Try.underlying68, rfl, rfl, rfl, by kernel_rfl, by kernel_rfl⟩
instance : Fo Try.prog 68 2 2 9 := ⟨_, _, Try.underlying68, rfl, rfl, rfl, by kernel_rfl, by kernel_rfl⟩
-- 69: func(string) api.Field
theorem inf_71 : (Try.prog.info? 71).map (fun i => (i.zero, i.size, i.bytes)) = some (some (.agg #[(.int .i64 0), (.string ⟨#[]⟩), (.string ⟨#[]⟩), (.string ⟨#[]⟩)]), 4, 56) := by kernel_rfl
instance : Siz Try.prog 71 4 := siz_of inf_71
instance : Zer Try.prog 71 (.agg #[(.int .i64 0), (.string ⟨#[]⟩), (.string ⟨#[]⟩), (.string ⟨#[]⟩)]) := zer_of inf_71
instance : Stc Try.prog 71 := ⟨_, Try.underlying71⟩
instance : Fo Try.prog 71 0 0 3 := ⟨_, _, Try.underlying71, rfl, rfl, rfl, by kernel_rfl, by kernel_rfl⟩
instance : Fo Try.prog 71 1 1 9 := ⟨_, _, Try.underlying71, rfl, rfl, rfl, by kernel_rfl, by kernel_rfl⟩
instance : Fo Try.prog 71 2 2 9 := ⟨_, _, Try.underlying71, rfl, rfl, rfl, by kernel_rfl, by kernel_rfl⟩
instance : Fo Try.prog 71 3 3 9 := ⟨_, _, Try.underlying71, rfl, rfl, rfl, by kernel_rfl, by kernel_rfl⟩
-- 72: struct { Field string; Text string; Keys []string }
theorem inf_73 : (Try.prog.info? 73).map (fun i => (i.zero, i.size, i.bytes)) = some (some (.agg #[(.string ⟨#[]⟩), (.string ⟨#[]⟩), (.slice none 0 0)]), 3, 56) := by kernel_rfl
instance : Siz Try.prog 73 3 := siz_of inf_73
instance : Byt Try.prog 73 56 := byt_of inf_73
instance : Zer Try.prog 73 (.agg #[(.string ⟨#[]⟩), (.string ⟨#[]⟩), (.slice none 0 0)]) := zer_of inf_73
instance : Stc Try.prog 73 := ⟨_, Try.underlying73⟩
instance : Fo Try.prog 73 0 0 9 := ⟨_, _, Try.underlying73, rfl, rfl, rfl, by kernel_rfl, by kernel_rfl⟩
instance : Fo Try.prog 73 1 1 9 := ⟨_, _, Try.underlying73, rfl, rfl, rfl, by kernel_rfl, by kernel_rfl⟩
instance : Fo Try.prog 73 2 2 47 := ⟨_, _, Try.underlying73, rfl, rfl, rfl, by kernel_rfl, by kernel_rfl⟩
-- 74: func([]api.Service, string) ([]api.Got, []api.Request, api.Errno)
theorem inf_75 : (Try.prog.info? 75).map (fun i => (i.zero, i.size, i.bytes)) = some (some (.slice none 0 0), 1, 24) := by kernel_rfl
instance : Siz Try.prog 75 1 := siz_of inf_75
instance : Sca Try.prog 75 := ⟨_, Try.underlying75, rfl⟩
instance : Sli Try.prog 75 38 := ⟨Try.underlying75⟩
-- 76: struct { Name string; Kind int; Null bool; Text string; Sub []api.Got; Subs [][]api.Got }
theorem inf_77 : (Try.prog.info? 77).map (fun i => (i.zero, i.size, i.bytes)) = some (some (.agg #[(.string ⟨#[]⟩), (.int .i64 0), (.bool false), (.string ⟨#[]⟩), (.slice none 0 0), (.slice none 0 0)]), 6, 96) := by kernel_rfl
instance : Siz Try.prog 77 6 := siz_of inf_77
instance : Byt Try.prog 77 96 := byt_of inf_77
instance : Zer Try.prog 77 (.agg #[(.string ⟨#[]⟩), (.int .i64 0), (.bool false), (.string ⟨#[]⟩), (.slice none 0 0), (.slice none 0 0)]) := zer_of inf_77
instance : Stc Try.prog 77 := ⟨_, Try.underlying77⟩
instance : Fo Try.prog 77 0 0 9 := ⟨_, _, Try.underlying77, rfl, rfl, rfl, by kernel_rfl, by kernel_rfl⟩
instance : Fo Try.prog 77 1 1 3 := ⟨_, _, Try.underlying77, rfl, rfl, rfl, by kernel_rfl, by kernel_rfl⟩
instance : Fo Try.prog 77 2 2 4 := ⟨_, _, Try.underlying77, rfl, rfl, rfl, by kernel_rfl, by kernel_rfl⟩
instance : Fo Try.prog 77 3 3 9 := ⟨_, _, Try.underlying77, rfl, rfl, rfl, by kernel_rfl, by kernel_rfl⟩
instance : Fo Try.prog 77 4 4 38 := ⟨_, _, Try.underlying77, rfl, rfl, rfl, by kernel_rfl, by kernel_rfl⟩
instance : Fo Try.prog 77 5 5 75 := ⟨_, _, Try.underlying77, rfl, rfl, rfl, by kernel_rfl, by kernel_rfl⟩
-- 78: func(string, string, string) bool
theorem inf_87 : (Try.prog.info? 87).map (fun i => (i.zero, i.size, i.bytes)) = some (some (.agg #[(.string ⟨#[]⟩), (.string ⟨#[]⟩), (.slice none 0 0)]), 3, 56) := by kernel_rfl
instance : Siz Try.prog 87 3 := siz_of inf_87
instance : Zer Try.prog 87 (.agg #[(.string ⟨#[]⟩), (.string ⟨#[]⟩), (.slice none 0 0)]) := zer_of inf_87
instance : Stc Try.prog 87 := ⟨_, Try.underlying87⟩
instance : Fo Try.prog 87 0 0 9 := ⟨_, _, Try.underlying87, rfl, rfl, rfl, by kernel_rfl, by kernel_rfl⟩
instance : Fo Try.prog 87 1 1 9 := ⟨_, _, Try.underlying87, rfl, rfl, rfl, by kernel_rfl, by kernel_rfl⟩
instance : Fo Try.prog 87 2 2 23 := ⟨_, _, Try.underlying87, rfl, rfl, rfl, by kernel_rfl, by kernel_rfl⟩
-- 88: func([]api.Service) api.Fault
instance : IsPtr Try.prog 96 99 := ⟨Try.underlying96⟩
-- 97: []api.Owner
theorem inf_97 : (Try.prog.info? 97).map (fun i => (i.zero, i.size, i.bytes)) = some (some (.slice none 0 0), 1, 24) := by kernel_rfl
instance : Siz Try.prog 97 1 := siz_of inf_97
instance : Sca Try.prog 97 := ⟨_, Try.underlying97, rfl⟩
instance : Sli Try.prog 97 139 := ⟨Try.underlying97⟩
-- 98: struct { Type api.Type; Owners []api.Owner; Homes []api.Owner }
theorem inf_99 : (Try.prog.info? 99).map (fun i => (i.zero, i.size, i.bytes)) = some (some (.agg #[(.string ⟨#[]⟩), (.slice none 0 0), (.slice none 0 0), (.slice none 0 0)]), 4, 88) := by kernel_rfl
instance : Siz Try.prog 99 4 := siz_of inf_99
instance : Byt Try.prog 99 88 := byt_of inf_99
instance : Zer Try.prog 99 (.agg #[(.string ⟨#[]⟩), (.slice none 0 0), (.slice none 0 0), (.slice none 0 0)]) := zer_of inf_99
instance : Stc Try.prog 99 := ⟨_, Try.underlying99⟩
instance : Fo Try.prog 99 0 0 57 := ⟨_, _, Try.underlying99, rfl, rfl, rfl, by kernel_rfl, by kernel_rfl⟩
instance : Fo Try.prog 99 1 2 97 := ⟨_, _, Try.underlying99, rfl, rfl, rfl, by kernel_rfl, by kernel_rfl⟩
instance : Fo Try.prog 99 2 3 97 := ⟨_, _, Try.underlying99, rfl, rfl, rfl, by kernel_rfl, by kernel_rfl⟩
-- 100: func([]api.Part, string) int
instance : Fo Try.prog 105 0 0 22 := ⟨_, _, Try.underlying105, rfl, rfl, rfl, by kernel_rfl, by kernel_rfl⟩
instance : Fo Try.prog 105 1 1 32 := ⟨_, _, Try.underlying105, rfl, rfl, rfl, by kernel_rfl, by kernel_rfl⟩
instance : Fo Try.prog 105 2 2 43 := ⟨_, _, Try.underlying105, rfl, rfl, rfl, by kernel_rfl, by kernel_rfl⟩
-- 107: map[string][]api.Got
instance : IsMap Try.prog 107 9 38 := ⟨Try.underlying107⟩
-- 108: func(*api.Part, []string, []api.Pick) map[string][]api.Got
instance : Sli Try.prog 117 59 := ⟨Try.underlying117⟩
-- 118: func([]api.Field) []api.Field
instance : Sli Try.prog 121 5 := ⟨Try.underlying121⟩
-- 122: struct { api.Fault }
theorem inf_139 : (Try.prog.info? 139).map (fun i => (i.zero, i.size, i.bytes)) = some (some (.agg #[(.int .i64 0), (.string ⟨#[]⟩), (.string ⟨#[]⟩)]), 3, 40) := by kernel_rfl
instance : Siz Try.prog 139 3 := siz_of inf_139
instance : Byt Try.prog 139 40 := byt_of inf_139
instance : Zer Try.prog 139 (.agg #[(.int .i64 0), (.string ⟨#[]⟩), (.string ⟨#[]⟩)]) := zer_of inf_139
instance : Stc Try.prog 139 := ⟨_, Try.underlying139⟩
instance : Fo Try.prog 139 0 0 3 := ⟨_, _, Try.underlying139, rfl, rfl, rfl, by kernel_rfl, by kernel_rfl⟩
instance : Fo Try.prog 139 1 1 9 := ⟨_, _, Try.underlying139, rfl, rfl, rfl, by kernel_rfl, by kernel_rfl⟩
instance : Fo Try.prog 139 2 2 9 := ⟨_, _, Try.underlying139, rfl, rfl, rfl, by kernel_rfl, by kernel_rfl⟩
-- 140: func(api.Ask) api.Errno
theorem inf_144 : (Try.prog.info? 144).map (fun i => (i.zero, i.size, i.bytes)) = some (some (.pointer none), 1, 8) := by kernel_rfl
instance : Siz Try.prog 144 1 := siz_of inf_144
instance : Zer Try.prog 144 (.pointer none) := zer_of inf_144
instance : Sca Try.prog 144 := ⟨_, Try.underlying144, rfl⟩
instance : IsPtr Try.prog 144 64 := ⟨Try.underlying144⟩
-- 145: func(*api.Owner, string) *api.Thing
instance : IsMap Try.prog 149 9 154 := ⟨Try.underlying149⟩
-- 150: func(*api.Part, []string, []api.Pick) map[string]*gate.row
instance : Sca Try.prog 151 := ⟨_, Try.underlying151, rfl⟩
instance : IsMap Try.prog 151 9 73 := ⟨Try.underlying151⟩
-- 152: struct { there bool; vals map[string]api.Val }
instance : Fo Try.prog 153 0 0 4 := ⟨_, _, Try.underlying153, rfl, rfl, rfl, by kernel_rfl, by kernel_rfl⟩
instance : Fo Try.prog 153 1 1 151 := ⟨_, _, Try.underlying153, rfl, rfl, rfl, by kernel_rfl, by kernel_rfl⟩
-- 154: *gate.row
theorem inf_154 : (Try.prog.info? 154).map (fun i => (i.zero, i.size, i.bytes)) = some (some (.pointer none), 1, 8) := by kernel_rfl
instance : Zer Try.prog 154 (.pointer none) := zer_of inf_154
theorem inf_158 : (Try.prog.info? 158).map (fun i => (i.zero, i.size, i.bytes)) = some (some (.slice none 0 0), 1, 24) := by kernel_rfl
instance : Siz Try.prog 158 1 := siz_of inf_158
instance : Sca Try.prog 158 := ⟨_, Try.underlying158, rfl⟩
instance : Sli Try.prog 158 47 := ⟨Try.underlying158⟩
-- 159: struct { Own []string; Called []string; Fields [][]string }
theorem inf_160 : (Try.prog.info? 160).map (fun i => (i.zero, i.size, i.bytes)) = some (some (.agg #[(.slice none 0 0), (.slice none 0 0), (.slice none 0 0)]), 3, 72) := by kernel_rfl
instance : Siz Try.prog 160 3 := siz_of inf_160
instance : Zer Try.prog 160 (.agg #[(.slice none 0 0), (.slice none 0 0), (.slice none 0 0)]) := zer_of inf_160
instance : Stc Try.prog 160 := ⟨_, Try.underlying160⟩
instance : Fo Try.prog 160 0 0 47 := ⟨_, _, Try.underlying160, rfl, rfl, rfl, by kernel_rfl, by kernel_rfl⟩
instance : Fo Try.prog 160 1 1 47 := ⟨_, _, Try.underlying160, rfl, rfl, rfl, by kernel_rfl, by kernel_rfl⟩
instance : Fo Try.prog 160 2 2 158 := ⟨_, _, Try.underlying160, rfl, rfl, rfl, by kernel_rfl, by kernel_rfl⟩
-- 162: func([]api.Type, []api.Change) (stitchref1.Seen, api.Fault)
instance : IsPtr Try.prog 173 57 := ⟨Try.underlying173⟩
-- 174: func(string) int
instance : IsInt Try.prog 183 .u64 := ⟨Try.underlying183⟩
-- 184: func([]api.Part, []api.Part) bool
theorem inf_195 : (Try.prog.info? 195).map (fun i => (i.zero, i.size, i.bytes)) = some (some (.slice none 0 0), 1, 24) := by kernel_rfl
instance : Siz Try.prog 195 1 := siz_of inf_195
instance : Sca Try.prog 195 := ⟨_, Try.underlying195, rfl⟩
instance : Sli Try.prog 195 4 := ⟨Try.underlying195⟩
-- 196: [][]api.Val
theorem inf_196 : (Try.prog.info? 196).map (fun i => (i.zero, i.size, i.bytes)) = some (some (.slice none 0 0), 1, 24) := by kernel_rfl
instance : Siz Try.prog 196 1 := siz_of inf_196
instance : Sca Try.prog 196 := ⟨_, Try.underlying196, rfl⟩
instance : Sli Try.prog 196 62 := ⟨Try.underlying196⟩
-- 197: struct { Found []bool; Vals [][]api.Val }
theorem inf_198 : (Try.prog.info? 198).map (fun i => (i.zero, i.size, i.bytes)) = some (some (.agg #[(.slice none 0 0), (.slice none 0 0)]), 2, 48) := by kernel_rfl
instance : Siz Try.prog 198 2 := siz_of inf_198
instance : Zer Try.prog 198 (.agg #[(.slice none 0 0), (.slice none 0 0)]) := zer_of inf_198
instance : Stc Try.prog 198 := ⟨_, Try.underlying198⟩
instance : Fo Try.prog 198 0 0 195 := ⟨_, _, Try.underlying198, rfl, rfl, rfl, by kernel_rfl, by kernel_rfl⟩
instance : Fo Try.prog 198 1 1 196 := ⟨_, _, Try.underlying198, rfl, rfl, rfl, by kernel_rfl, by kernel_rfl⟩
-- 200: func([]api.Service, api.Request) (api.Reply, api.Errno)
instance : Fun Try.prog 15 := ⟨_, Try.func15, by kernel_rfl, rfl⟩ -- stitchery/merge.All
instance : Fun Try.prog 17 := ⟨_, Try.func17, by kernel_rfl, rfl⟩ -- stitchery/stitchref4.SameGot
instance : Fun Try.prog 18 := ⟨_, Try.func18, by kernel_rfl, rfl⟩ -- stitchery/gate.Run
instance : Fun Try.prog 19 := ⟨_, Try.func19, by kernel_rfl, rfl⟩ -- stitchery/stitchref4.Run
instance : Fun Try.prog 20 := ⟨_, Try.func20, by kernel_rfl, rfl⟩ -- stitchery/stitchref4.SameRequests
instance : Fun Try.prog 22 := ⟨_, Try.func22, by kernel_rfl, rfl⟩ -- stitchery/serve.Wrong
instance : Fun Try.prog 24 := ⟨_, Try.func24, by kernel_rfl, rfl⟩ -- stitchery/change.See
instance : Fun Try.prog 26 := ⟨_, Try.func26, by kernel_rfl, rfl⟩ -- stitchery/schema.Named
instance : Fun Try.prog 33 := ⟨_, Try.func33, by kernel_rfl, rfl⟩ -- stitchery/merge.Wrong
instance : Fun Try.prog 34 := ⟨_, Try.func34, by kernel_rfl, rfl⟩ -- stitchery/merge.add
instance : Fun Try.prog 35 := ⟨_, Try.func35, by kernel_rfl, rfl⟩ -- stitchery/query.Check
instance : Fun Try.prog 36 := ⟨_, Try.func36, by kernel_rfl, rfl⟩ -- stitchery/merge.Find
instance : Fun Try.prog 39 := ⟨_, Try.func39, by kernel_rfl, rfl⟩ -- (*stitchery/gate.gate).things
instance : Fun Try.prog 40 := ⟨_, Try.func40, by kernel_rfl, rfl⟩ -- stitchery/stitchref4.Mean
instance : Fun Try.prog 41 := ⟨_, Try.func41, by kernel_rfl, rfl⟩ -- stitchery/stitchref1.All
instance : Fun Try.prog 42 := ⟨_, Try.func42, by kernel_rfl, rfl⟩ -- stitchery/stitchref4.Asks
instance : Fun Try.prog 43 := ⟨_, Try.func43, by kernel_rfl, rfl⟩ -- stitchery/stitchref1.Part
instance : Fun Try.prog 44 := ⟨_, Try.func44, by kernel_rfl, rfl⟩ -- stitchery/stitchref1.SameTexts
instance : Fun Try.prog 46 := ⟨_, Try.func46, by kernel_rfl, rfl⟩ -- stitchery/schema.Find
instance : Fun Try.prog 47 := ⟨_, Try.func47, by kernel_rfl, rfl⟩ -- stitchery/schema.Field
instance : Fun Try.prog 48 := ⟨_, Try.func48, by kernel_rfl, rfl⟩ -- slices.Contains[[]string,string]
instance : Fun Try.prog 49 := ⟨_, Try.func49, by kernel_rfl, rfl⟩ -- stitchery/schema.Wrong
instance : Fun Try.prog 50 := ⟨_, Try.func50, by kernel_rfl, rfl⟩ -- slices.Clone[[]stitchery/api.Field,stitchery/api.Field]
instance : Fun Try.prog 51 := ⟨_, Try.func51, by kernel_rfl, rfl⟩ -- (stitchery/change.view).do
instance : Fun Try.prog 59 := ⟨_, Try.func59, by kernel_rfl, rfl⟩ -- stitchery/schema.Things
instance : Fun Try.prog 60 := ⟨_, Try.func60, by kernel_rfl, rfl⟩ -- slices.BinarySearchFunc[[]stitchery/api.Part,stitchery/api.Part,string]
instance : Fun Try.prog 61 := ⟨_, Try.func61, by kernel_rfl, rfl⟩ -- stitchery/merge.add$1
instance : Fun Try.prog 62 := ⟨_, Try.func62, by kernel_rfl, rfl⟩ -- cmp.Compare[string]
instance : Fun Try.prog 63 := ⟨_, Try.func63, by kernel_rfl, rfl⟩ -- slices.Insert[[]stitchery/api.Part,stitchery/api.Part]
instance : Fun Try.prog 64 := ⟨_, Try.func64, by kernel_rfl, rfl⟩ -- stitchery/query.Wrong
instance : Fun Try.prog 65 := ⟨_, Try.func65, by kernel_rfl, rfl⟩ -- stitchery/query.picks
instance : Fun Try.prog 66 := ⟨_, Try.func66, by kernel_rfl, rfl⟩ -- slices.IndexFunc[[]stitchery/api.Part,stitchery/api.Part]
instance : Fun Try.prog 67 := ⟨_, Try.func67, by kernel_rfl, rfl⟩ -- stitchery/merge.Find$1
instance : Fun Try.prog 70 := ⟨_, Try.func70, by kernel_rfl, rfl⟩ -- (*stitchery/gate.gate).fetch
instance : Fun Try.prog 71 := ⟨_, Try.func71, by kernel_rfl, rfl⟩ -- (*stitchery/gate.gate).pick
instance : Fun Try.prog 72 := ⟨_, Try.func72, by kernel_rfl, rfl⟩ -- stitchery/stitchref4.Check
instance : Fun Try.prog 73 := ⟨_, Try.func73, by kernel_rfl, rfl⟩ -- stitchery/stitchref4.There
instance : Fun Try.prog 74 := ⟨_, Try.func74, by kernel_rfl, rfl⟩ -- stitchery/stitchref4.Get
instance : Fun Try.prog 75 := ⟨_, Try.func75, by kernel_rfl, rfl⟩ -- stitchery/stitchref1.WrongServices
instance : Fun Try.prog 76 := ⟨_, Try.func76, by kernel_rfl, rfl⟩ -- stitchery/stitchref1.See
instance : Fun Try.prog 77 := ⟨_, Try.func77, by kernel_rfl, rfl⟩ -- (*stitchery/stitchref1.Seen).Types
instance : Fun Try.prog 78 := ⟨_, Try.func78, by kernel_rfl, rfl⟩ -- stitchery/stitchref1.Has
instance : Fun Try.prog 79 := ⟨_, Try.func79, by kernel_rfl, rfl⟩ -- stitchery/stitchref1.At
instance : Fun Try.prog 80 := ⟨_, Try.func80, by kernel_rfl, rfl⟩ -- stitchery/stitchref1.Thing
instance : Fun Try.prog 82 := ⟨_, Try.func82, by kernel_rfl, rfl⟩ -- slices.IndexFunc[[]stitchery/api.Type,stitchery/api.Type]
instance : Fun Try.prog 83 := ⟨_, Try.func83, by kernel_rfl, rfl⟩ -- stitchery/schema.Find$1
instance : Fun Try.prog 84 := ⟨_, Try.func84, by kernel_rfl, rfl⟩ -- slices.IndexFunc[[]stitchery/api.Field,stitchery/api.Field]
instance : Fun Try.prog 85 := ⟨_, Try.func85, by kernel_rfl, rfl⟩ -- stitchery/schema.Field$1
instance : Fun Try.prog 86 := ⟨_, Try.func86, by kernel_rfl, rfl⟩ -- slices.Index[[]string,string]
instance : Fun Try.prog 87 := ⟨_, Try.func87, by kernel_rfl, rfl⟩ -- stitchery/schema.fields
instance : Fun Try.prog 88 := ⟨_, Try.func88, by kernel_rfl, rfl⟩ -- (stitchery/change.view).find
instance : Fun Try.prog 89 := ⟨_, Try.func89, by kernel_rfl, rfl⟩ -- (stitchery/change.view).call
instance : Fun Try.prog 90 := ⟨_, Try.func90, by kernel_rfl, rfl⟩ -- slices.Delete[[]stitchery/api.Field,stitchery/api.Field]
instance : Fun Try.prog 91 := ⟨_, Try.func91, by kernel_rfl, rfl⟩ -- slices.Delete[[]string,string]
instance : Fun Try.prog 94 := ⟨_, Try.func94, by kernel_rfl, rfl⟩ -- slices.ContainsFunc[[]stitchery/api.Thing,stitchery/api.Thing]
instance : Fun Try.prog 95 := ⟨_, Try.func95, by kernel_rfl, rfl⟩ -- stitchery/schema.Things$1
instance : Fun Try.prog 96 := ⟨_, Try.func96, by kernel_rfl, rfl⟩ -- stitchery/schema.vals
instance : Fun Try.prog 97 := ⟨_, Try.func97, by kernel_rfl, rfl⟩ -- cmp.isNaN[string]
instance : Fun Try.prog 100 := ⟨_, Try.func100, by kernel_rfl, rfl⟩ -- stitchery/query.shape
instance : Fun Try.prog 101 := ⟨_, Try.func101, by kernel_rfl, rfl⟩ -- slices.ContainsFunc[[]stitchery/api.Pick,stitchery/api.Pick]
instance : Fun Try.prog 102 := ⟨_, Try.func102, by kernel_rfl, rfl⟩ -- stitchery/query.picks$1
instance : Fun Try.prog 103 := ⟨_, Try.func103, by kernel_rfl, rfl⟩ -- stitchery/query.Called
instance : Fun Try.prog 104 := ⟨_, Try.func104, by kernel_rfl, rfl⟩ -- slices.IndexFunc[[]stitchery/api.Thing,stitchery/api.Thing]
instance : Fun Try.prog 107 := ⟨_, Try.func107, by kernel_rfl, rfl⟩ -- slices.Clone[[]string,string]
instance : Fun Try.prog 108 := ⟨_, Try.func108, by kernel_rfl, rfl⟩ -- stitchery/serve.Answer
instance : Fun Try.prog 109 := ⟨_, Try.func109, by kernel_rfl, rfl⟩ -- stitchery/gate.own
instance : Fun Try.prog 110 := ⟨_, Try.func110, by kernel_rfl, rfl⟩ -- stitchery/stitchref4.Wrong
instance : Fun Try.prog 111 := ⟨_, Try.func111, by kernel_rfl, rfl⟩ -- stitchery/stitchref4.Goes
instance : Fun Try.prog 112 := ⟨_, Try.func112, by kernel_rfl, rfl⟩ -- stitchery/stitchref4.Called
instance : Fun Try.prog 113 := ⟨_, Try.func113, by kernel_rfl, rfl⟩ -- stitchery/stitchref1.WrongThings
instance : Fun Try.prog 114 := ⟨_, Try.func114, by kernel_rfl, rfl⟩ -- stitchery/stitchref1.Wrong
instance : Fun Try.prog 115 := ⟨_, Try.func115, by kernel_rfl, rfl⟩ -- (*stitchery/stitchref1.Seen).Do
instance : Fun Try.prog 116 := ⟨_, Try.func116, by kernel_rfl, rfl⟩ -- stitchery/stitchref1.place
instance : Fun Try.prog 117 := ⟨_, Try.func117, by kernel_rfl, rfl⟩ -- slices.IndexFunc[stitchery/change.view,stitchery/api.Seen]
instance : Fun Try.prog 118 := ⟨_, Try.func118, by kernel_rfl, rfl⟩ -- (stitchery/change.view).find$1
instance : Fun Try.prog 119 := ⟨_, Try.func119, by kernel_rfl, rfl⟩ -- slices.ContainsFunc[[]string,string]
instance : Fun Try.prog 120 := ⟨_, Try.func120, by kernel_rfl, rfl⟩ -- stitchery/schema.vals$1
instance : Fun Try.prog 122 := ⟨_, Try.func122, by kernel_rfl, rfl⟩ -- slices.IndexFunc[[]stitchery/api.Pick,stitchery/api.Pick]
instance : Fun Try.prog 125 := ⟨_, Try.func125, by kernel_rfl, rfl⟩ -- stitchery/serve.thing
instance : Fun Try.prog 126 := ⟨_, Try.func126, by kernel_rfl, rfl⟩ -- stitchery/stitchref1.Named
instance : Fun Try.prog 127 := ⟨_, Try.func127, by kernel_rfl, rfl⟩ -- stitchery/stitchref4.Shape
instance : Fun Try.prog 128 := ⟨_, Try.func128, by kernel_rfl, rfl⟩ -- stitchery/stitchref1.Type
instance : Fun Try.prog 129 := ⟨_, Try.func129, by kernel_rfl, rfl⟩ -- stitchery/stitchref1.WrongVals
instance : Fun Try.prog 130 := ⟨_, Try.func130, by kernel_rfl, rfl⟩ -- stitchery/stitchref1.Wrong$1
instance : Fun Try.prog 131 := ⟨_, Try.func131, by kernel_rfl, rfl⟩ -- slices.IndexFunc[[]string,string]
instance : Fun Try.prog 133 := ⟨_, Try.func133, by kernel_rfl, rfl⟩ -- stitchery/serve.thing$1
theorem mixed : Try.prog.follows .mixedOrders = true := by kernel_rfl
end Go.Proofs.Ytgckpmcdlciibac
