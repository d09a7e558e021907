/- The facts on the program's types and functions, off the translation, by program (wip/inst.py). -/
import Derived.Test.YtgckpmcdlciibacRows
import Derived.Test.YtgckpmcdlciibacZA
namespace Go.Proofs.Ytgckpmcdlciibac
theorem siz_of {P : Program} {t : TypeId} {z : Value} {k b : Nat} (h : (P.info? t).map (fun i => (i.zero, i.size, i.bytes)) = some (some z, k, b)) : Siz P t k := ⟨by
  cases hi : P.info? t with
  | none => rw [hi] at h; cases h
  | some i => rw [hi] at h; simp at h; exact ⟨i, rfl, h.2.1⟩⟩
theorem byt_of {P : Program} {t : TypeId} {z : Value} {k b : Nat} (h : (P.info? t).map (fun i => (i.zero, i.size, i.bytes)) = some (some z, k, b)) : Byt P t b := ⟨by
  cases hi : P.info? t with
  | none => rw [hi] at h; cases h
  | some i => rw [hi] at h; simp at h; exact ⟨i, rfl, h.2.2⟩⟩
theorem zer_of {P : Program} {t : TypeId} {z : Value} {k b : Nat} (h : (P.info? t).map (fun i => (i.zero, i.size, i.bytes)) = some (some z, k, b)) : Zer P t z := ⟨by
  cases hi : P.info? t with
  | none => rw [hi] at h; cases h
  | some i => rw [hi] at h; simp at h; exact ⟨i, rfl, h.1⟩⟩
-- 1: func()
theorem inf_1 : (Try.prog.info? 1).map (fun i => (i.zero, i.size, i.bytes)) = some (some (.nilFunc), 1, 8) := by kernel_rfl
instance : Siz Try.prog 1 1 := siz_of inf_1
instance : Byt Try.prog 1 8 := byt_of inf_1
instance : Zer Try.prog 1 (.nilFunc) := zer_of inf_1
instance : Sca Try.prog 1 := ⟨_, Try.underlying1, rfl⟩
-- 2: int64
theorem inf_2 : (Try.prog.info? 2).map (fun i => (i.zero, i.size, i.bytes)) = some (some (.int .i64 0), 1, 8) := by kernel_rfl
instance : Siz Try.prog 2 1 := siz_of inf_2
instance : Byt Try.prog 2 8 := byt_of inf_2
instance : Zer Try.prog 2 (.int .i64 0) := zer_of inf_2
instance : Sca Try.prog 2 := ⟨_, Try.underlying2, rfl⟩
instance : IsInt Try.prog 2 .i64 := ⟨Try.underlying2⟩
-- 3: int
theorem inf_3 : (Try.prog.info? 3).map (fun i => (i.zero, i.size, i.bytes)) = some (some (.int .i64 0), 1, 8) := by kernel_rfl
instance : Siz Try.prog 3 1 := siz_of inf_3
instance : Byt Try.prog 3 8 := byt_of inf_3
instance : Zer Try.prog 3 (.int .i64 0) := zer_of inf_3
instance : Sca Try.prog 3 := ⟨_, Try.underlying3, rfl⟩
instance : IsInt Try.prog 3 .i64 := ⟨Try.underlying3⟩
-- 4: bool
theorem inf_4 : (Try.prog.info? 4).map (fun i => (i.zero, i.size, i.bytes)) = some (some (.bool false), 1, 1) := by kernel_rfl
instance : Siz Try.prog 4 1 := siz_of inf_4
instance : Byt Try.prog 4 1 := byt_of inf_4
instance : Zer Try.prog 4 (.bool false) := zer_of inf_4
instance : Sca Try.prog 4 := ⟨_, Try.underlying4, rfl⟩
-- 5: uint8
theorem inf_5 : (Try.prog.info? 5).map (fun i => (i.zero, i.size, i.bytes)) = some (some (.int .u8 0), 1, 1) := by kernel_rfl
instance : Siz Try.prog 5 1 := siz_of inf_5
instance : Byt Try.prog 5 1 := byt_of inf_5
instance : Zer Try.prog 5 (.int .u8 0) := zer_of inf_5
instance : Sca Try.prog 5 := ⟨_, Try.underlying5, rfl⟩
instance : IsInt Try.prog 5 .u8 := ⟨Try.underlying5⟩
-- 9: string
theorem inf_9 : (Try.prog.info? 9).map (fun i => (i.zero, i.size, i.bytes)) = some (some (.string ⟨#[]⟩), 1, 16) := by kernel_rfl
instance : Siz Try.prog 9 1 := siz_of inf_9
instance : Byt Try.prog 9 16 := byt_of inf_9
instance : Zer Try.prog 9 (.string ⟨#[]⟩) := zer_of inf_9
instance : Sca Try.prog 9 := ⟨_, Try.underlying9, rfl⟩
instance : IsStr Try.prog 9 := ⟨Try.underlying9⟩
-- 19: maps.unhashableTypeError
theorem inf_19 : (Try.prog.info? 19).map (fun i => (i.zero, i.size, i.bytes)) = some (some (.agg #[(.pointer none)]), 1, 8) := by kernel_rfl
instance : Siz Try.prog 19 1 := siz_of inf_19
instance : Byt Try.prog 19 8 := byt_of inf_19
instance : Zer Try.prog 19 (.agg #[(.pointer none)]) := zer_of inf_19
instance : Stc Try.prog 19 := ⟨_, Try.underlying19⟩
instance : Fo Try.prog 19 0 0 17 := ⟨_, _, Try.underlying19, rfl, rfl, rfl, by kernel_rfl, by kernel_rfl⟩
-- 20: interface {}
theorem inf_20 : (Try.prog.info? 20).map (fun i => (i.zero, i.size, i.bytes)) = some (some (.nilIface), 1, 16) := by kernel_rfl
instance : Siz Try.prog 20 1 := siz_of inf_20
instance : Byt Try.prog 20 16 := byt_of inf_20
instance : Zer Try.prog 20 (.nilIface) := zer_of inf_20
instance : Sca Try.prog 20 := ⟨_, Try.underlying20, rfl⟩
-- 21: int32
theorem inf_21 : (Try.prog.info? 21).map (fun i => (i.zero, i.size, i.bytes)) = some (some (.int .i32 0), 1, 4) := by kernel_rfl
instance : Siz Try.prog 21 1 := siz_of inf_21
instance : Byt Try.prog 21 4 := byt_of inf_21
instance : Zer Try.prog 21 (.int .i32 0) := zer_of inf_21
instance : Sca Try.prog 21 := ⟨_, Try.underlying21, rfl⟩
instance : IsInt Try.prog 21 .i32 := ⟨Try.underlying21⟩
-- 22: []api.Service
theorem inf_22 : (Try.prog.info? 22).map (fun i => (i.zero, i.size, i.bytes)) = some (some (.slice none 0 0), 1, 24) := by kernel_rfl
instance : Siz Try.prog 22 1 := siz_of inf_22
instance : Byt Try.prog 22 24 := byt_of inf_22
instance : Zer Try.prog 22 (.slice none 0 0) := zer_of inf_22
instance : Sca Try.prog 22 := ⟨_, Try.underlying22, rfl⟩
instance : Sli Try.prog 22 31 := ⟨Try.underlying22⟩
-- 23: []api.Pick
theorem inf_23 : (Try.prog.info? 23).map (fun i => (i.zero, i.size, i.bytes)) = some (some (.slice none 0 0), 1, 24) := by kernel_rfl
instance : Siz Try.prog 23 1 := siz_of inf_23
instance : Byt Try.prog 23 24 := byt_of inf_23
instance : Zer Try.prog 23 (.slice none 0 0) := zer_of inf_23
instance : Sca Try.prog 23 := ⟨_, Try.underlying23, rfl⟩
instance : Sli Try.prog 23 87 := ⟨Try.underlying23⟩
-- 24: struct { Type string; Key string; Picks []api.Pick }
theorem inf_24 : (Try.prog.info? 24).map (fun i => (i.zero, i.size, i.bytes)) = some (some (.agg #[(.string ⟨#[]⟩), (.string ⟨#[]⟩), (.slice none 0 0)]), 3, 56) := by kernel_rfl
instance : Siz Try.prog 24 3 := siz_of inf_24
instance : Byt Try.prog 24 56 := byt_of inf_24
instance : Zer Try.prog 24 (.agg #[(.string ⟨#[]⟩), (.string ⟨#[]⟩), (.slice none 0 0)]) := zer_of inf_24
instance : Stc Try.prog 24 := ⟨_, Try.underlying24⟩
instance : Fo Try.prog 24 0 0 9 := ⟨_, _, Try.underlying24, rfl, rfl, rfl, by kernel_rfl, by kernel_rfl⟩
instance : Fo Try.prog 24 1 1 9 := ⟨_, _, Try.underlying24, rfl, rfl, rfl, by kernel_rfl, by kernel_rfl⟩
instance : Fo Try.prog 24 2 2 23 := ⟨_, _, Try.underlying24, rfl, rfl, rfl, by kernel_rfl, by kernel_rfl⟩
-- 25: api.Ask
theorem inf_25 : (Try.prog.info? 25).map (fun i => (i.zero, i.size, i.bytes)) = some (some (.agg #[(.string ⟨#[]⟩), (.string ⟨#[]⟩), (.slice none 0 0)]), 3, 56) := by kernel_rfl
instance : Siz Try.prog 25 3 := siz_of inf_25
instance : Byt Try.prog 25 56 := byt_of inf_25
instance : Zer Try.prog 25 (.agg #[(.string ⟨#[]⟩), (.string ⟨#[]⟩), (.slice none 0 0)]) := zer_of inf_25
instance : Stc Try.prog 25 := ⟨_, Try.underlying25⟩
instance : Fo Try.prog 25 0 0 9 := ⟨_, _, Try.underlying25, rfl, rfl, rfl, by kernel_rfl, by kernel_rfl⟩
instance : Fo Try.prog 25 1 1 9 := ⟨_, _, Try.underlying25, rfl, rfl, rfl, by kernel_rfl, by kernel_rfl⟩
instance : Fo Try.prog 25 2 2 23 := ⟨_, _, Try.underlying25, rfl, rfl, rfl, by kernel_rfl, by kernel_rfl⟩
-- 26: func() bool
theorem inf_26 : (Try.prog.info? 26).map (fun i => (i.zero, i.size, i.bytes)) = some (some (.nilFunc), 1, 8) := by kernel_rfl
instance : Siz Try.prog 26 1 := siz_of inf_26
instance : Byt Try.prog 26 8 := byt_of inf_26
instance : Zer Try.prog 26 (.nilFunc) := zer_of inf_26
instance : Sca Try.prog 26 := ⟨_, Try.underlying26, rfl⟩
-- 27: []api.Type
theorem inf_27 : (Try.prog.info? 27).map (fun i => (i.zero, i.size, i.bytes)) = some (some (.slice none 0 0), 1, 24) := by kernel_rfl
instance : Siz Try.prog 27 1 := siz_of inf_27
instance : Byt Try.prog 27 24 := byt_of inf_27
instance : Zer Try.prog 27 (.slice none 0 0) := zer_of inf_27
instance : Sca Try.prog 27 := ⟨_, Try.underlying27, rfl⟩
instance : Sli Try.prog 27 57 := ⟨Try.underlying27⟩
-- 28: []api.Change
theorem inf_28 : (Try.prog.info? 28).map (fun i => (i.zero, i.size, i.bytes)) = some (some (.slice none 0 0), 1, 24) := by kernel_rfl
instance : Siz Try.prog 28 1 := siz_of inf_28
instance : Byt Try.prog 28 24 := byt_of inf_28
instance : Zer Try.prog 28 (.slice none 0 0) := zer_of inf_28
instance : Sca Try.prog 28 := ⟨_, Try.underlying28, rfl⟩
instance : Sli Try.prog 28 71 := ⟨Try.underlying28⟩
-- 29: []api.Thing
theorem inf_29 : (Try.prog.info? 29).map (fun i => (i.zero, i.size, i.bytes)) = some (some (.slice none 0 0), 1, 24) := by kernel_rfl
instance : Siz Try.prog 29 1 := siz_of inf_29
instance : Byt Try.prog 29 24 := byt_of inf_29
instance : Zer Try.prog 29 (.slice none 0 0) := zer_of inf_29
instance : Sca Try.prog 29 := ⟨_, Try.underlying29, rfl⟩
instance : Sli Try.prog 29 64 := ⟨Try.underlying29⟩
-- 30: struct { Types []api.Type; Changes []api.Change; Things []api.Thing }
theorem inf_30 : (Try.prog.info? 30).map (fun i => (i.zero, i.size, i.bytes)) = some (some (.agg #[(.slice none 0 0), (.slice none 0 0), (.slice none 0 0)]), 3, 72) := by kernel_rfl
instance : Siz Try.prog 30 3 := siz_of inf_30
instance : Byt Try.prog 30 72 := byt_of inf_30
instance : Zer Try.prog 30 (.agg #[(.slice none 0 0), (.slice none 0 0), (.slice none 0 0)]) := zer_of inf_30
instance : Stc Try.prog 30 := ⟨_, Try.underlying30⟩
instance : Fo Try.prog 30 0 0 27 := ⟨_, _, Try.underlying30, rfl, rfl, rfl, by kernel_rfl, by kernel_rfl⟩
instance : Fo Try.prog 30 1 1 28 := ⟨_, _, Try.underlying30, rfl, rfl, rfl, by kernel_rfl, by kernel_rfl⟩
instance : Fo Try.prog 30 2 2 29 := ⟨_, _, Try.underlying30, rfl, rfl, rfl, by kernel_rfl, by kernel_rfl⟩
-- 31: api.Service
theorem inf_31 : (Try.prog.info? 31).map (fun i => (i.zero, i.size, i.bytes)) = some (some (.agg #[(.slice none 0 0), (.slice none 0 0), (.slice none 0 0)]), 3, 72) := by kernel_rfl
instance : Siz Try.prog 31 3 := siz_of inf_31
instance : Byt Try.prog 31 72 := byt_of inf_31
instance : Zer Try.prog 31 (.agg #[(.slice none 0 0), (.slice none 0 0), (.slice none 0 0)]) := zer_of inf_31
instance : Stc Try.prog 31 := ⟨_, Try.underlying31⟩
instance : Fo Try.prog 31 0 0 27 := ⟨_, _, Try.underlying31, rfl, rfl, rfl, by kernel_rfl, by kernel_rfl⟩
instance : Fo Try.prog 31 1 1 28 := ⟨_, _, Try.underlying31, rfl, rfl, rfl, by kernel_rfl, by kernel_rfl⟩
instance : Fo Try.prog 31 2 2 29 := ⟨_, _, Try.underlying31, rfl, rfl, rfl, by kernel_rfl, by kernel_rfl⟩
-- 32: []api.Part
theorem inf_32 : (Try.prog.info? 32).map (fun i => (i.zero, i.size, i.bytes)) = some (some (.slice none 0 0), 1, 24) := by kernel_rfl
instance : Siz Try.prog 32 1 := siz_of inf_32
instance : Byt Try.prog 32 24 := byt_of inf_32
instance : Zer Try.prog 32 (.slice none 0 0) := zer_of inf_32
instance : Sca Try.prog 32 := ⟨_, Try.underlying32, rfl⟩
instance : Sli Try.prog 32 99 := ⟨Try.underlying32⟩
-- 33: api.Errno
theorem inf_33 : (Try.prog.info? 33).map (fun i => (i.zero, i.size, i.bytes)) = some (some (.int .i64 0), 1, 8) := by kernel_rfl
instance : Siz Try.prog 33 1 := siz_of inf_33
instance : Byt Try.prog 33 8 := byt_of inf_33
instance : Zer Try.prog 33 (.int .i64 0) := zer_of inf_33
instance : Sca Try.prog 33 := ⟨_, Try.underlying33, rfl⟩
instance : IsInt Try.prog 33 .i64 := ⟨Try.underlying33⟩
-- 34: struct { Err api.Errno; At int }
theorem inf_34 : (Try.prog.info? 34).map (fun i => (i.zero, i.size, i.bytes)) = some (some (.agg #[(.int .i64 0), (.int .i64 0)]), 2, 16) := by kernel_rfl
instance : Siz Try.prog 34 2 := siz_of inf_34
instance : Byt Try.prog 34 16 := byt_of inf_34
instance : Zer Try.prog 34 (.agg #[(.int .i64 0), (.int .i64 0)]) := zer_of inf_34
instance : Stc Try.prog 34 := ⟨_, Try.underlying34⟩
instance : Fo Try.prog 34 0 0 33 := ⟨_, _, Try.underlying34, rfl, rfl, rfl, by kernel_rfl, by kernel_rfl⟩
instance : Fo Try.prog 34 1 1 3 := ⟨_, _, Try.underlying34, rfl, rfl, rfl, by kernel_rfl, by kernel_rfl⟩
-- 35: api.Fault
theorem inf_35 : (Try.prog.info? 35).map (fun i => (i.zero, i.size, i.bytes)) = some (some (.agg #[(.int .i64 0), (.int .i64 0)]), 2, 16) := by kernel_rfl
instance : Siz Try.prog 35 2 := siz_of inf_35
instance : Byt Try.prog 35 16 := byt_of inf_35
instance : Zer Try.prog 35 (.agg #[(.int .i64 0), (.int .i64 0)]) := zer_of inf_35
instance : Stc Try.prog 35 := ⟨_, Try.underlying35⟩
instance : Fo Try.prog 35 0 0 33 := ⟨_, _, Try.underlying35, rfl, rfl, rfl, by kernel_rfl, by kernel_rfl⟩
instance : Fo Try.prog 35 1 1 3 := ⟨_, _, Try.underlying35, rfl, rfl, rfl, by kernel_rfl, by kernel_rfl⟩
-- 37: func([]api.Service) ([]api.Part, api.Fault)
theorem inf_37 : (Try.prog.info? 37).map (fun i => (i.zero, i.size, i.bytes)) = some (some (.nilFunc), 1, 8) := by kernel_rfl
instance : Siz Try.prog 37 1 := siz_of inf_37
instance : Byt Try.prog 37 8 := byt_of inf_37
instance : Zer Try.prog 37 (.nilFunc) := zer_of inf_37
instance : Sca Try.prog 37 := ⟨_, Try.underlying37, rfl⟩
-- 38: []api.Got
theorem inf_38 : (Try.prog.info? 38).map (fun i => (i.zero, i.size, i.bytes)) = some (some (.slice none 0 0), 1, 24) := by kernel_rfl
instance : Siz Try.prog 38 1 := siz_of inf_38
instance : Byt Try.prog 38 24 := byt_of inf_38
instance : Zer Try.prog 38 (.slice none 0 0) := zer_of inf_38
instance : Sca Try.prog 38 := ⟨_, Try.underlying38, rfl⟩
instance : Sli Try.prog 38 77 := ⟨Try.underlying38⟩
-- 40: func([]api.Service, api.Ask) ([]api.Got, api.Errno)
theorem inf_40 : (Try.prog.info? 40).map (fun i => (i.zero, i.size, i.bytes)) = some (some (.nilFunc), 1, 8) := by kernel_rfl
instance : Siz Try.prog 40 1 := siz_of inf_40
instance : Byt Try.prog 40 8 := byt_of inf_40
instance : Zer Try.prog 40 (.nilFunc) := zer_of inf_40
instance : Sca Try.prog 40 := ⟨_, Try.underlying40, rfl⟩
-- 41: func([]api.Got, []api.Got) bool
theorem inf_41 : (Try.prog.info? 41).map (fun i => (i.zero, i.size, i.bytes)) = some (some (.nilFunc), 1, 8) := by kernel_rfl
instance : Siz Try.prog 41 1 := siz_of inf_41
instance : Byt Try.prog 41 8 := byt_of inf_41
instance : Zer Try.prog 41 (.nilFunc) := zer_of inf_41
instance : Sca Try.prog 41 := ⟨_, Try.underlying41, rfl⟩
-- 42: func([]api.Service, api.Ask) bool
theorem inf_42 : (Try.prog.info? 42).map (fun i => (i.zero, i.size, i.bytes)) = some (some (.nilFunc), 1, 8) := by kernel_rfl
instance : Siz Try.prog 42 1 := siz_of inf_42
instance : Byt Try.prog 42 8 := byt_of inf_42
instance : Zer Try.prog 42 (.nilFunc) := zer_of inf_42
instance : Sca Try.prog 42 := ⟨_, Try.underlying42, rfl⟩
-- 43: []api.Request
theorem inf_43 : (Try.prog.info? 43).map (fun i => (i.zero, i.size, i.bytes)) = some (some (.slice none 0 0), 1, 24) := by kernel_rfl
instance : Siz Try.prog 43 1 := siz_of inf_43
instance : Byt Try.prog 43 24 := byt_of inf_43
instance : Zer Try.prog 43 (.slice none 0 0) := zer_of inf_43
instance : Sca Try.prog 43 := ⟨_, Try.underlying43, rfl⟩
instance : Sli Try.prog 43 49 := ⟨Try.underlying43⟩
-- 45: func([]api.Service, api.Ask) ([]api.Got, []api.Request, api.Errno)
theorem inf_45 : (Try.prog.info? 45).map (fun i => (i.zero, i.size, i.bytes)) = some (some (.nilFunc), 1, 8) := by kernel_rfl
instance : Siz Try.prog 45 1 := siz_of inf_45
instance : Byt Try.prog 45 8 := byt_of inf_45
instance : Zer Try.prog 45 (.nilFunc) := zer_of inf_45
instance : Sca Try.prog 45 := ⟨_, Try.underlying45, rfl⟩
-- 46: func([]api.Request, []api.Request) bool
theorem inf_46 : (Try.prog.info? 46).map (fun i => (i.zero, i.size, i.bytes)) = some (some (.nilFunc), 1, 8) := by kernel_rfl
instance : Siz Try.prog 46 1 := siz_of inf_46
instance : Byt Try.prog 46 8 := byt_of inf_46
instance : Zer Try.prog 46 (.nilFunc) := zer_of inf_46
instance : Sca Try.prog 46 := ⟨_, Try.underlying46, rfl⟩
-- 47: []string
theorem inf_47 : (Try.prog.info? 47).map (fun i => (i.zero, i.size, i.bytes)) = some (some (.slice none 0 0), 1, 24) := by kernel_rfl
instance : Siz Try.prog 47 1 := siz_of inf_47
instance : Byt Try.prog 47 24 := byt_of inf_47
instance : Zer Try.prog 47 (.slice none 0 0) := zer_of inf_47
instance : Sca Try.prog 47 := ⟨_, Try.underlying47, rfl⟩
instance : Sli Try.prog 47 9 := ⟨Try.underlying47⟩
-- 48: struct { Service int; Type string; Keys []string; Fields []string }
theorem inf_48 : (Try.prog.info? 48).map (fun i => (i.zero, i.size, i.bytes)) = some (some (.agg #[(.int .i64 0), (.string ⟨#[]⟩), (.slice none 0 0), (.slice none 0 0)]), 4, 72) := by kernel_rfl
instance : Siz Try.prog 48 4 := siz_of inf_48
instance : Byt Try.prog 48 72 := byt_of inf_48
instance : Zer Try.prog 48 (.agg #[(.int .i64 0), (.string ⟨#[]⟩), (.slice none 0 0), (.slice none 0 0)]) := zer_of inf_48
instance : Stc Try.prog 48 := ⟨_, Try.underlying48⟩
instance : Fo Try.prog 48 0 0 3 := ⟨_, _, Try.underlying48, rfl, rfl, rfl, by kernel_rfl, by kernel_rfl⟩
instance : Fo Try.prog 48 1 1 9 := ⟨_, _, Try.underlying48, rfl, rfl, rfl, by kernel_rfl, by kernel_rfl⟩
instance : Fo Try.prog 48 2 2 47 := ⟨_, _, Try.underlying48, rfl, rfl, rfl, by kernel_rfl, by kernel_rfl⟩
instance : Fo Try.prog 48 3 3 47 := ⟨_, _, Try.underlying48, rfl, rfl, rfl, by kernel_rfl, by kernel_rfl⟩
-- 49: api.Request
theorem inf_49 : (Try.prog.info? 49).map (fun i => (i.zero, i.size, i.bytes)) = some (some (.agg #[(.int .i64 0), (.string ⟨#[]⟩), (.slice none 0 0), (.slice none 0 0)]), 4, 72) := by kernel_rfl
instance : Siz Try.prog 49 4 := siz_of inf_49
instance : Byt Try.prog 49 72 := byt_of inf_49
instance : Zer Try.prog 49 (.agg #[(.int .i64 0), (.string ⟨#[]⟩), (.slice none 0 0), (.slice none 0 0)]) := zer_of inf_49
instance : Stc Try.prog 49 := ⟨_, Try.underlying49⟩
instance : Fo Try.prog 49 0 0 3 := ⟨_, _, Try.underlying49, rfl, rfl, rfl, by kernel_rfl, by kernel_rfl⟩
instance : Fo Try.prog 49 1 1 9 := ⟨_, _, Try.underlying49, rfl, rfl, rfl, by kernel_rfl, by kernel_rfl⟩
instance : Fo Try.prog 49 2 2 47 := ⟨_, _, Try.underlying49, rfl, rfl, rfl, by kernel_rfl, by kernel_rfl⟩
instance : Fo Try.prog 49 3 3 47 := ⟨_, _, Try.underlying49, rfl, rfl, rfl, by kernel_rfl, by kernel_rfl⟩
-- 50: func([]api.Service, api.Request) api.Errno
theorem inf_50 : (Try.prog.info? 50).map (fun i => (i.zero, i.size, i.bytes)) = some (some (.nilFunc), 1, 8) := by kernel_rfl
instance : Siz Try.prog 50 1 := siz_of inf_50
instance : Byt Try.prog 50 8 := byt_of inf_50
instance : Zer Try.prog 50 (.nilFunc) := zer_of inf_50
instance : Sca Try.prog 50 := ⟨_, Try.underlying50, rfl⟩
-- 51: func([]api.Pick) int
theorem inf_51 : (Try.prog.info? 51).map (fun i => (i.zero, i.size, i.bytes)) = some (some (.nilFunc), 1, 8) := by kernel_rfl
instance : Siz Try.prog 51 1 := siz_of inf_51
instance : Byt Try.prog 51 8 := byt_of inf_51
instance : Zer Try.prog 51 (.nilFunc) := zer_of inf_51
instance : Sca Try.prog 51 := ⟨_, Try.underlying51, rfl⟩
-- 52: []api.Seen
theorem inf_52 : (Try.prog.info? 52).map (fun i => (i.zero, i.size, i.bytes)) = some (some (.slice none 0 0), 1, 24) := by kernel_rfl
instance : Siz Try.prog 52 1 := siz_of inf_52
instance : Byt Try.prog 52 24 := byt_of inf_52
instance : Zer Try.prog 52 (.slice none 0 0) := zer_of inf_52
instance : Sca Try.prog 52 := ⟨_, Try.underlying52, rfl⟩
instance : Sli Try.prog 52 59 := ⟨Try.underlying52⟩
-- 54: func([]api.Type, []api.Change) ([]api.Seen, api.Fault)
theorem inf_54 : (Try.prog.info? 54).map (fun i => (i.zero, i.size, i.bytes)) = some (some (.nilFunc), 1, 8) := by kernel_rfl
instance : Siz Try.prog 54 1 := siz_of inf_54
instance : Byt Try.prog 54 8 := byt_of inf_54
instance : Zer Try.prog 54 (.nilFunc) := zer_of inf_54
instance : Sca Try.prog 54 := ⟨_, Try.underlying54, rfl⟩
-- 55: []api.Field
theorem inf_55 : (Try.prog.info? 55).map (fun i => (i.zero, i.size, i.bytes)) = some (some (.slice none 0 0), 1, 24) := by kernel_rfl
instance : Siz Try.prog 55 1 := siz_of inf_55
instance : Byt Try.prog 55 24 := byt_of inf_55
instance : Zer Try.prog 55 (.slice none 0 0) := zer_of inf_55
instance : Sca Try.prog 55 := ⟨_, Try.underlying55, rfl⟩
instance : Sli Try.prog 55 68 := ⟨Try.underlying55⟩
-- 56: struct { Name string; Fields []api.Field }
theorem inf_56 : (Try.prog.info? 56).map (fun i => (i.zero, i.size, i.bytes)) = some (some (.agg #[(.string ⟨#[]⟩), (.slice none 0 0)]), 2, 40) := by kernel_rfl
instance : Siz Try.prog 56 2 := siz_of inf_56
instance : Byt Try.prog 56 40 := byt_of inf_56
instance : Zer Try.prog 56 (.agg #[(.string ⟨#[]⟩), (.slice none 0 0)]) := zer_of inf_56
instance : Stc Try.prog 56 := ⟨_, Try.underlying56⟩
instance : Fo Try.prog 56 0 0 9 := ⟨_, _, Try.underlying56, rfl, rfl, rfl, by kernel_rfl, by kernel_rfl⟩
instance : Fo Try.prog 56 1 1 55 := ⟨_, _, Try.underlying56, rfl, rfl, rfl, by kernel_rfl, by kernel_rfl⟩
-- 57: api.Type
theorem inf_57 : (Try.prog.info? 57).map (fun i => (i.zero, i.size, i.bytes)) = some (some (.agg #[(.string ⟨#[]⟩), (.slice none 0 0)]), 2, 40) := by kernel_rfl
instance : Siz Try.prog 57 2 := siz_of inf_57
instance : Byt Try.prog 57 40 := byt_of inf_57
instance : Zer Try.prog 57 (.agg #[(.string ⟨#[]⟩), (.slice none 0 0)]) := zer_of inf_57
instance : Stc Try.prog 57 := ⟨_, Try.underlying57⟩
instance : Fo Try.prog 57 0 0 9 := ⟨_, _, Try.underlying57, rfl, rfl, rfl, by kernel_rfl, by kernel_rfl⟩
instance : Fo Try.prog 57 1 1 55 := ⟨_, _, Try.underlying57, rfl, rfl, rfl, by kernel_rfl, by kernel_rfl⟩
-- 58: struct { Type api.Type; Own string; Fields []string }
theorem inf_58 : (Try.prog.info? 58).map (fun i => (i.zero, i.size, i.bytes)) = some (some (.agg #[(.string ⟨#[]⟩), (.slice none 0 0), (.string ⟨#[]⟩), (.slice none 0 0)]), 4, 80) := by kernel_rfl
instance : Siz Try.prog 58 4 := siz_of inf_58
instance : Byt Try.prog 58 80 := byt_of inf_58
instance : Zer Try.prog 58 (.agg #[(.string ⟨#[]⟩), (.slice none 0 0), (.string ⟨#[]⟩), (.slice none 0 0)]) := zer_of inf_58
instance : Stc Try.prog 58 := ⟨_, Try.underlying58⟩
instance : Fo Try.prog 58 0 0 57 := ⟨_, _, Try.underlying58, rfl, rfl, rfl, by kernel_rfl, by kernel_rfl⟩
instance : Fo Try.prog 58 1 2 9 := ⟨_, _, Try.underlying58, rfl, rfl, rfl, by kernel_rfl, by kernel_rfl⟩
instance : Fo Try.prog 58 2 3 47 := ⟨_, _, Try.underlying58, rfl, rfl, rfl, by kernel_rfl, by kernel_rfl⟩
-- 59: api.Seen
theorem inf_59 : (Try.prog.info? 59).map (fun i => (i.zero, i.size, i.bytes)) = some (some (.agg #[(.string ⟨#[]⟩), (.slice none 0 0), (.string ⟨#[]⟩), (.slice none 0 0)]), 4, 80) := by kernel_rfl
instance : Siz Try.prog 59 4 := siz_of inf_59
instance : Byt Try.prog 59 80 := byt_of inf_59
instance : Zer Try.prog 59 (.agg #[(.string ⟨#[]⟩), (.slice none 0 0), (.string ⟨#[]⟩), (.slice none 0 0)]) := zer_of inf_59
instance : Stc Try.prog 59 := ⟨_, Try.underlying59⟩
instance : Fo Try.prog 59 0 0 57 := ⟨_, _, Try.underlying59, rfl, rfl, rfl, by kernel_rfl, by kernel_rfl⟩
instance : Fo Try.prog 59 1 2 9 := ⟨_, _, Try.underlying59, rfl, rfl, rfl, by kernel_rfl, by kernel_rfl⟩
instance : Fo Try.prog 59 2 3 47 := ⟨_, _, Try.underlying59, rfl, rfl, rfl, by kernel_rfl, by kernel_rfl⟩
-- 60: map[int]bool
theorem inf_60 : (Try.prog.info? 60).map (fun i => (i.zero, i.size, i.bytes)) = some (some (.map none), 1, 8) := by kernel_rfl
instance : Siz Try.prog 60 1 := siz_of inf_60
instance : Byt Try.prog 60 8 := byt_of inf_60
instance : Zer Try.prog 60 (.map none) := zer_of inf_60
instance : Sca Try.prog 60 := ⟨_, Try.underlying60, rfl⟩
instance : IsMap Try.prog 60 3 4 := ⟨Try.underlying60⟩
-- 61: map[string]int
theorem inf_61 : (Try.prog.info? 61).map (fun i => (i.zero, i.size, i.bytes)) = some (some (.map none), 1, 8) := by kernel_rfl
instance : Siz Try.prog 61 1 := siz_of inf_61
instance : Byt Try.prog 61 8 := byt_of inf_61
instance : Zer Try.prog 61 (.map none) := zer_of inf_61
instance : Sca Try.prog 61 := ⟨_, Try.underlying61, rfl⟩
instance : IsMap Try.prog 61 9 3 := ⟨Try.underlying61⟩
-- 62: []api.Val
theorem inf_62 : (Try.prog.info? 62).map (fun i => (i.zero, i.size, i.bytes)) = some (some (.slice none 0 0), 1, 24) := by kernel_rfl
instance : Siz Try.prog 62 1 := siz_of inf_62
instance : Byt Try.prog 62 24 := byt_of inf_62
instance : Zer Try.prog 62 (.slice none 0 0) := zer_of inf_62
instance : Sca Try.prog 62 := ⟨_, Try.underlying62, rfl⟩
instance : Sli Try.prog 62 73 := ⟨Try.underlying62⟩
-- 63: struct { Type string; Key string; Vals []api.Val }
theorem inf_63 : (Try.prog.info? 63).map (fun i => (i.zero, i.size, i.bytes)) = some (some (.agg #[(.string ⟨#[]⟩), (.string ⟨#[]⟩), (.slice none 0 0)]), 3, 56) := by kernel_rfl
instance : Siz Try.prog 63 3 := siz_of inf_63
instance : Byt Try.prog 63 56 := byt_of inf_63
instance : Zer Try.prog 63 (.agg #[(.string ⟨#[]⟩), (.string ⟨#[]⟩), (.slice none 0 0)]) := zer_of inf_63
instance : Stc Try.prog 63 := ⟨_, Try.underlying63⟩
instance : Fo Try.prog 63 0 0 9 := ⟨_, _, Try.underlying63, rfl, rfl, rfl, by kernel_rfl, by kernel_rfl⟩
instance : Fo Try.prog 63 1 1 9 := ⟨_, _, Try.underlying63, rfl, rfl, rfl, by kernel_rfl, by kernel_rfl⟩
instance : Fo Try.prog 63 2 2 62 := ⟨_, _, Try.underlying63, rfl, rfl, rfl, by kernel_rfl, by kernel_rfl⟩
-- 64: api.Thing
theorem inf_64 : (Try.prog.info? 64).map (fun i => (i.zero, i.size, i.bytes)) = some (some (.agg #[(.string ⟨#[]⟩), (.string ⟨#[]⟩), (.slice none 0 0)]), 3, 56) := by kernel_rfl
instance : Siz Try.prog 64 3 := siz_of inf_64
instance : Byt Try.prog 64 56 := byt_of inf_64
instance : Zer Try.prog 64 (.agg #[(.string ⟨#[]⟩), (.string ⟨#[]⟩), (.slice none 0 0)]) := zer_of inf_64
instance : Stc Try.prog 64 := ⟨_, Try.underlying64⟩
instance : Fo Try.prog 64 0 0 9 := ⟨_, _, Try.underlying64, rfl, rfl, rfl, by kernel_rfl, by kernel_rfl⟩
instance : Fo Try.prog 64 1 1 9 := ⟨_, _, Try.underlying64, rfl, rfl, rfl, by kernel_rfl, by kernel_rfl⟩
instance : Fo Try.prog 64 2 2 62 := ⟨_, _, Try.underlying64, rfl, rfl, rfl, by kernel_rfl, by kernel_rfl⟩
-- 65: func([]api.Service, api.Ask, int, int) bool
theorem inf_65 : (Try.prog.info? 65).map (fun i => (i.zero, i.size, i.bytes)) = some (some (.nilFunc), 1, 8) := by kernel_rfl
instance : Siz Try.prog 65 1 := siz_of inf_65
instance : Byt Try.prog 65 8 := byt_of inf_65
instance : Zer Try.prog 65 (.nilFunc) := zer_of inf_65
instance : Sca Try.prog 65 := ⟨_, Try.underlying65, rfl⟩
-- 66: func(string) bool
theorem inf_66 : (Try.prog.info? 66).map (fun i => (i.zero, i.size, i.bytes)) = some (some (.nilFunc), 1, 8) := by kernel_rfl
instance : Siz Try.prog 66 1 := siz_of inf_66
instance : Byt Try.prog 66 8 := byt_of inf_66
instance : Zer Try.prog 66 (.nilFunc) := zer_of inf_66
instance : Sca Try.prog 66 := ⟨_, Try.underlying66, rfl⟩
-- 67: struct { Name string; Kind int; Type string }
theorem inf_67 : (Try.prog.info? 67).map (fun i => (i.zero, i.size, i.bytes)) = some (some (.agg #[(.string ⟨#[]⟩), (.int .i64 0), (.string ⟨#[]⟩)]), 3, 40) := by kernel_rfl
instance : Siz Try.prog 67 3 := siz_of inf_67
instance : Byt Try.prog 67 40 := byt_of inf_67
instance : Zer Try.prog 67 (.agg #[(.string ⟨#[]⟩), (.int .i64 0), (.string ⟨#[]⟩)]) := zer_of inf_67
instance : Stc Try.prog 67 := ⟨_, Try.underlying67⟩
instance : Fo Try.prog 67 0 0 9 := ⟨_, _, Try.underlying67, rfl, rfl, rfl, by kernel_rfl, by kernel_rfl⟩
instance : Fo Try.prog 67 1 1 3 := ⟨_, _, Try.underlying67, rfl, rfl, rfl, by kernel_rfl, by kernel_rfl⟩
instance : Fo Try.prog 67 2 2 9 := ⟨_, _, Try.underlying67, rfl, rfl, rfl, by kernel_rfl, by kernel_rfl⟩
-- 68: api.Field
theorem inf_68 : (Try.prog.info? 68).map (fun i => (i.zero, i.size, i.bytes)) = some (some (.agg #[(.string ⟨#[]⟩), (.int .i64 0), (.string ⟨#[]⟩)]), 3, 40) := by kernel_rfl
instance : Siz Try.prog 68 3 := siz_of inf_68
instance : Byt Try.prog 68 40 := byt_of inf_68
instance : Zer Try.prog 68 (.agg #[(.string ⟨#[]⟩), (.int .i64 0), (.string ⟨#[]⟩)]) := zer_of inf_68
instance : Stc Try.prog 68 := ⟨_, Try.underlying68⟩
instance : Fo Try.prog 68 0 0 9 := ⟨_, _, Try.underlying68, rfl, rfl, rfl, by kernel_rfl, by kernel_rfl⟩
instance : Fo Try.prog 68 1 1 3 := ⟨_, _, Try.underlying68, rfl, rfl, rfl, by kernel_rfl, by kernel_rfl⟩
instance : Fo Try.prog 68 2 2 9 := ⟨_, _, Try.underlying68, rfl, rfl, rfl, by kernel_rfl, by kernel_rfl⟩
-- 69: func(string) api.Field
theorem inf_69 : (Try.prog.info? 69).map (fun i => (i.zero, i.size, i.bytes)) = some (some (.nilFunc), 1, 8) := by kernel_rfl
instance : Siz Try.prog 69 1 := siz_of inf_69
instance : Byt Try.prog 69 8 := byt_of inf_69
instance : Zer Try.prog 69 (.nilFunc) := zer_of inf_69
instance : Sca Try.prog 69 := ⟨_, Try.underlying69, rfl⟩
-- 70: struct { Kind int; Type string; Field string; To string }
theorem inf_70 : (Try.prog.info? 70).map (fun i => (i.zero, i.size, i.bytes)) = some (some (.agg #[(.int .i64 0), (.string ⟨#[]⟩), (.string ⟨#[]⟩), (.string ⟨#[]⟩)]), 4, 56) := by kernel_rfl
instance : Siz Try.prog 70 4 := siz_of inf_70
instance : Byt Try.prog 70 56 := byt_of inf_70
instance : Zer Try.prog 70 (.agg #[(.int .i64 0), (.string ⟨#[]⟩), (.string ⟨#[]⟩), (.string ⟨#[]⟩)]) := zer_of inf_70
instance : Stc Try.prog 70 := ⟨_, Try.underlying70⟩
instance : Fo Try.prog 70 0 0 3 := ⟨_, _, Try.underlying70, rfl, rfl, rfl, by kernel_rfl, by kernel_rfl⟩
instance : Fo Try.prog 70 1 1 9 := ⟨_, _, Try.underlying70, rfl, rfl, rfl, by kernel_rfl, by kernel_rfl⟩
instance : Fo Try.prog 70 2 2 9 := ⟨_, _, Try.underlying70, rfl, rfl, rfl, by kernel_rfl, by kernel_rfl⟩
instance : Fo Try.prog 70 3 3 9 := ⟨_, _, Try.underlying70, rfl, rfl, rfl, by kernel_rfl, by kernel_rfl⟩
-- 71: api.Change
theorem inf_71 : (Try.prog.info? 71).map (fun i => (i.zero, i.size, i.bytes)) = some (some (.agg #[(.int .i64 0), (.string ⟨#[]⟩), (.string ⟨#[]⟩), (.string ⟨#[]⟩)]), 4, 56) := by kernel_rfl
instance : Siz Try.prog 71 4 := siz_of inf_71
instance : Byt Try.prog 71 56 := byt_of inf_71
instance : Zer Try.prog 71 (.agg #[(.int .i64 0), (.string ⟨#[]⟩), (.string ⟨#[]⟩), (.string ⟨#[]⟩)]) := zer_of inf_71
instance : Stc Try.prog 71 := ⟨_, Try.underlying71⟩
instance : Fo Try.prog 71 0 0 3 := ⟨_, _, Try.underlying71, rfl, rfl, rfl, by kernel_rfl, by kernel_rfl⟩
instance : Fo Try.prog 71 1 1 9 := ⟨_, _, Try.underlying71, rfl, rfl, rfl, by kernel_rfl, by kernel_rfl⟩
instance : Fo Try.prog 71 2 2 9 := ⟨_, _, Try.underlying71, rfl, rfl, rfl, by kernel_rfl, by kernel_rfl⟩
instance : Fo Try.prog 71 3 3 9 := ⟨_, _, Try.underlying71, rfl, rfl, rfl, by kernel_rfl, by kernel_rfl⟩
-- 72: struct { Field string; Text string; Keys []string }
theorem inf_72 : (Try.prog.info? 72).map (fun i => (i.zero, i.size, i.bytes)) = some (some (.agg #[(.string ⟨#[]⟩), (.string ⟨#[]⟩), (.slice none 0 0)]), 3, 56) := by kernel_rfl
instance : Siz Try.prog 72 3 := siz_of inf_72
instance : Byt Try.prog 72 56 := byt_of inf_72
instance : Zer Try.prog 72 (.agg #[(.string ⟨#[]⟩), (.string ⟨#[]⟩), (.slice none 0 0)]) := zer_of inf_72
instance : Stc Try.prog 72 := ⟨_, Try.underlying72⟩
instance : Fo Try.prog 72 0 0 9 := ⟨_, _, Try.underlying72, rfl, rfl, rfl, by kernel_rfl, by kernel_rfl⟩
instance : Fo Try.prog 72 1 1 9 := ⟨_, _, Try.underlying72, rfl, rfl, rfl, by kernel_rfl, by kernel_rfl⟩
instance : Fo Try.prog 72 2 2 47 := ⟨_, _, Try.underlying72, rfl, rfl, rfl, by kernel_rfl, by kernel_rfl⟩
-- 73: api.Val
theorem inf_73 : (Try.prog.info? 73).map (fun i => (i.zero, i.size, i.bytes)) = some (some (.agg #[(.string ⟨#[]⟩), (.string ⟨#[]⟩), (.slice none 0 0)]), 3, 56) := by kernel_rfl
instance : Siz Try.prog 73 3 := siz_of inf_73
instance : Byt Try.prog 73 56 := byt_of inf_73
instance : Zer Try.prog 73 (.agg #[(.string ⟨#[]⟩), (.string ⟨#[]⟩), (.slice none 0 0)]) := zer_of inf_73
instance : Stc Try.prog 73 := ⟨_, Try.underlying73⟩
instance : Fo Try.prog 73 0 0 9 := ⟨_, _, Try.underlying73, rfl, rfl, rfl, by kernel_rfl, by kernel_rfl⟩
instance : Fo Try.prog 73 1 1 9 := ⟨_, _, Try.underlying73, rfl, rfl, rfl, by kernel_rfl, by kernel_rfl⟩
instance : Fo Try.prog 73 2 2 47 := ⟨_, _, Try.underlying73, rfl, rfl, rfl, by kernel_rfl, by kernel_rfl⟩
-- 74: func([]api.Service, string) ([]api.Got, []api.Request, api.Errno)
theorem inf_74 : (Try.prog.info? 74).map (fun i => (i.zero, i.size, i.bytes)) = some (some (.nilFunc), 1, 8) := by kernel_rfl
instance : Siz Try.prog 74 1 := siz_of inf_74
instance : Byt Try.prog 74 8 := byt_of inf_74
instance : Zer Try.prog 74 (.nilFunc) := zer_of inf_74
instance : Sca Try.prog 74 := ⟨_, Try.underlying74, rfl⟩
-- 75: [][]api.Got
theorem inf_75 : (Try.prog.info? 75).map (fun i => (i.zero, i.size, i.bytes)) = some (some (.slice none 0 0), 1, 24) := by kernel_rfl
instance : Siz Try.prog 75 1 := siz_of inf_75
instance : Byt Try.prog 75 24 := byt_of inf_75
instance : Zer Try.prog 75 (.slice none 0 0) := zer_of inf_75
instance : Sca Try.prog 75 := ⟨_, Try.underlying75, rfl⟩
instance : Sli Try.prog 75 38 := ⟨Try.underlying75⟩
-- 76: struct { Name string; Kind int; Null bool; Text string; Sub []api.Got; Subs [][]api.Got }
theorem inf_76 : (Try.prog.info? 76).map (fun i => (i.zero, i.size, i.bytes)) = some (some (.agg #[(.string ⟨#[]⟩), (.int .i64 0), (.bool false), (.string ⟨#[]⟩), (.slice none 0 0), (.slice none 0 0)]), 6, 96) := by kernel_rfl
instance : Siz Try.prog 76 6 := siz_of inf_76
instance : Byt Try.prog 76 96 := byt_of inf_76
instance : Zer Try.prog 76 (.agg #[(.string ⟨#[]⟩), (.int .i64 0), (.bool false), (.string ⟨#[]⟩), (.slice none 0 0), (.slice none 0 0)]) := zer_of inf_76
instance : Stc Try.prog 76 := ⟨_, Try.underlying76⟩
instance : Fo Try.prog 76 0 0 9 := ⟨_, _, Try.underlying76, rfl, rfl, rfl, by kernel_rfl, by kernel_rfl⟩
instance : Fo Try.prog 76 1 1 3 := ⟨_, _, Try.underlying76, rfl, rfl, rfl, by kernel_rfl, by kernel_rfl⟩
instance : Fo Try.prog 76 2 2 4 := ⟨_, _, Try.underlying76, rfl, rfl, rfl, by kernel_rfl, by kernel_rfl⟩
instance : Fo Try.prog 76 3 3 9 := ⟨_, _, Try.underlying76, rfl, rfl, rfl, by kernel_rfl, by kernel_rfl⟩
instance : Fo Try.prog 76 4 4 38 := ⟨_, _, Try.underlying76, rfl, rfl, rfl, by kernel_rfl, by kernel_rfl⟩
instance : Fo Try.prog 76 5 5 75 := ⟨_, _, Try.underlying76, rfl, rfl, rfl, by kernel_rfl, by kernel_rfl⟩
-- 77: api.Got
theorem inf_77 : (Try.prog.info? 77).map (fun i => (i.zero, i.size, i.bytes)) = some (some (.agg #[(.string ⟨#[]⟩), (.int .i64 0), (.bool false), (.string ⟨#[]⟩), (.slice none 0 0), (.slice none 0 0)]), 6, 96) := by kernel_rfl
instance : Siz Try.prog 77 6 := siz_of inf_77
instance : Byt Try.prog 77 96 := byt_of inf_77
instance : Zer Try.prog 77 (.agg #[(.string ⟨#[]⟩), (.int .i64 0), (.bool false), (.string ⟨#[]⟩), (.slice none 0 0), (.slice none 0 0)]) := zer_of inf_77
instance : Stc Try.prog 77 := ⟨_, Try.underlying77⟩
instance : Fo Try.prog 77 0 0 9 := ⟨_, _, Try.underlying77, rfl, rfl, rfl, by kernel_rfl, by kernel_rfl⟩
instance : Fo Try.prog 77 1 1 3 := ⟨_, _, Try.underlying77, rfl, rfl, rfl, by kernel_rfl, by kernel_rfl⟩
instance : Fo Try.prog 77 2 2 4 := ⟨_, _, Try.underlying77, rfl, rfl, rfl, by kernel_rfl, by kernel_rfl⟩
instance : Fo Try.prog 77 3 3 9 := ⟨_, _, Try.underlying77, rfl, rfl, rfl, by kernel_rfl, by kernel_rfl⟩
instance : Fo Try.prog 77 4 4 38 := ⟨_, _, Try.underlying77, rfl, rfl, rfl, by kernel_rfl, by kernel_rfl⟩
instance : Fo Try.prog 77 5 5 75 := ⟨_, _, Try.underlying77, rfl, rfl, rfl, by kernel_rfl, by kernel_rfl⟩
-- 78: func(string, string, string) bool
theorem inf_78 : (Try.prog.info? 78).map (fun i => (i.zero, i.size, i.bytes)) = some (some (.nilFunc), 1, 8) := by kernel_rfl
instance : Siz Try.prog 78 1 := siz_of inf_78
instance : Byt Try.prog 78 8 := byt_of inf_78
instance : Zer Try.prog 78 (.nilFunc) := zer_of inf_78
instance : Sca Try.prog 78 := ⟨_, Try.underlying78, rfl⟩
-- 79: func(int) []api.Service
theorem inf_79 : (Try.prog.info? 79).map (fun i => (i.zero, i.size, i.bytes)) = some (some (.nilFunc), 1, 8) := by kernel_rfl
instance : Siz Try.prog 79 1 := siz_of inf_79
instance : Byt Try.prog 79 8 := byt_of inf_79
instance : Zer Try.prog 79 (.nilFunc) := zer_of inf_79
instance : Sca Try.prog 79 := ⟨_, Try.underlying79, rfl⟩
-- 80: func(int) string
theorem inf_80 : (Try.prog.info? 80).map (fun i => (i.zero, i.size, i.bytes)) = some (some (.nilFunc), 1, 8) := by kernel_rfl
instance : Siz Try.prog 80 1 := siz_of inf_80
instance : Byt Try.prog 80 8 := byt_of inf_80
instance : Zer Try.prog 80 (.nilFunc) := zer_of inf_80
instance : Sca Try.prog 80 := ⟨_, Try.underlying80, rfl⟩
-- 81: func(int, int) bool
theorem inf_81 : (Try.prog.info? 81).map (fun i => (i.zero, i.size, i.bytes)) = some (some (.nilFunc), 1, 8) := by kernel_rfl
instance : Siz Try.prog 81 1 := siz_of inf_81
instance : Byt Try.prog 81 8 := byt_of inf_81
instance : Zer Try.prog 81 (.nilFunc) := zer_of inf_81
instance : Sca Try.prog 81 := ⟨_, Try.underlying81, rfl⟩
-- 83: func(string) (api.Ask, api.Fault)
theorem inf_83 : (Try.prog.info? 83).map (fun i => (i.zero, i.size, i.bytes)) = some (some (.nilFunc), 1, 8) := by kernel_rfl
instance : Siz Try.prog 83 1 := siz_of inf_83
instance : Byt Try.prog 83 8 := byt_of inf_83
instance : Zer Try.prog 83 (.nilFunc) := zer_of inf_83
instance : Sca Try.prog 83 := ⟨_, Try.underlying83, rfl⟩
-- 84: func([]api.Service, string) bool
theorem inf_84 : (Try.prog.info? 84).map (fun i => (i.zero, i.size, i.bytes)) = some (some (.nilFunc), 1, 8) := by kernel_rfl
instance : Siz Try.prog 84 1 := siz_of inf_84
instance : Byt Try.prog 84 8 := byt_of inf_84
instance : Zer Try.prog 84 (.nilFunc) := zer_of inf_84
instance : Sca Try.prog 84 := ⟨_, Try.underlying84, rfl⟩
-- 85: func() []api.Service
theorem inf_85 : (Try.prog.info? 85).map (fun i => (i.zero, i.size, i.bytes)) = some (some (.nilFunc), 1, 8) := by kernel_rfl
instance : Siz Try.prog 85 1 := siz_of inf_85
instance : Byt Try.prog 85 8 := byt_of inf_85
instance : Zer Try.prog 85 (.nilFunc) := zer_of inf_85
instance : Sca Try.prog 85 := ⟨_, Try.underlying85, rfl⟩
-- 86: struct { As string; Field string; Picks []api.Pick }
theorem inf_86 : (Try.prog.info? 86).map (fun i => (i.zero, i.size, i.bytes)) = some (some (.agg #[(.string ⟨#[]⟩), (.string ⟨#[]⟩), (.slice none 0 0)]), 3, 56) := by kernel_rfl
instance : Siz Try.prog 86 3 := siz_of inf_86
instance : Byt Try.prog 86 56 := byt_of inf_86
instance : Zer Try.prog 86 (.agg #[(.string ⟨#[]⟩), (.string ⟨#[]⟩), (.slice none 0 0)]) := zer_of inf_86
instance : Stc Try.prog 86 := ⟨_, Try.underlying86⟩
instance : Fo Try.prog 86 0 0 9 := ⟨_, _, Try.underlying86, rfl, rfl, rfl, by kernel_rfl, by kernel_rfl⟩
instance : Fo Try.prog 86 1 1 9 := ⟨_, _, Try.underlying86, rfl, rfl, rfl, by kernel_rfl, by kernel_rfl⟩
instance : Fo Try.prog 86 2 2 23 := ⟨_, _, Try.underlying86, rfl, rfl, rfl, by kernel_rfl, by kernel_rfl⟩
-- 87: api.Pick
theorem inf_87 : (Try.prog.info? 87).map (fun i => (i.zero, i.size, i.bytes)) = some (some (.agg #[(.string ⟨#[]⟩), (.string ⟨#[]⟩), (.slice none 0 0)]), 3, 56) := by kernel_rfl
instance : Siz Try.prog 87 3 := siz_of inf_87
instance : Byt Try.prog 87 56 := byt_of inf_87
instance : Zer Try.prog 87 (.agg #[(.string ⟨#[]⟩), (.string ⟨#[]⟩), (.slice none 0 0)]) := zer_of inf_87
instance : Stc Try.prog 87 := ⟨_, Try.underlying87⟩
instance : Fo Try.prog 87 0 0 9 := ⟨_, _, Try.underlying87, rfl, rfl, rfl, by kernel_rfl, by kernel_rfl⟩
instance : Fo Try.prog 87 1 1 9 := ⟨_, _, Try.underlying87, rfl, rfl, rfl, by kernel_rfl, by kernel_rfl⟩
instance : Fo Try.prog 87 2 2 23 := ⟨_, _, Try.underlying87, rfl, rfl, rfl, by kernel_rfl, by kernel_rfl⟩
-- 88: func([]api.Service) api.Fault
theorem inf_88 : (Try.prog.info? 88).map (fun i => (i.zero, i.size, i.bytes)) = some (some (.nilFunc), 1, 8) := by kernel_rfl
instance : Siz Try.prog 88 1 := siz_of inf_88
instance : Byt Try.prog 88 8 := byt_of inf_88
instance : Zer Try.prog 88 (.nilFunc) := zer_of inf_88
instance : Sca Try.prog 88 := ⟨_, Try.underlying88, rfl⟩
-- 90: func([]api.Part, int, *api.Seen) ([]api.Part, api.Errno)
theorem inf_90 : (Try.prog.info? 90).map (fun i => (i.zero, i.size, i.bytes)) = some (some (.nilFunc), 1, 8) := by kernel_rfl
instance : Siz Try.prog 90 1 := siz_of inf_90
instance : Byt Try.prog 90 8 := byt_of inf_90
instance : Zer Try.prog 90 (.nilFunc) := zer_of inf_90
instance : Sca Try.prog 90 := ⟨_, Try.underlying90, rfl⟩
-- 91: *api.Seen
theorem inf_91 : (Try.prog.info? 91).map (fun i => (i.zero, i.size, i.bytes)) = some (some (.pointer none), 1, 8) := by kernel_rfl
instance : Siz Try.prog 91 1 := siz_of inf_91
instance : Byt Try.prog 91 8 := byt_of inf_91
instance : Zer Try.prog 91 (.pointer none) := zer_of inf_91
instance : Sca Try.prog 91 := ⟨_, Try.underlying91, rfl⟩
instance : IsPtr Try.prog 91 59 := ⟨Try.underlying91⟩
-- 92: func([]api.Part, api.Ask) api.Errno
theorem inf_92 : (Try.prog.info? 92).map (fun i => (i.zero, i.size, i.bytes)) = some (some (.nilFunc), 1, 8) := by kernel_rfl
instance : Siz Try.prog 92 1 := siz_of inf_92
instance : Byt Try.prog 92 8 := byt_of inf_92
instance : Zer Try.prog 92 (.nilFunc) := zer_of inf_92
instance : Sca Try.prog 92 := ⟨_, Try.underlying92, rfl⟩
-- 93: *mean.whole
theorem inf_93 : (Try.prog.info? 93).map (fun i => (i.zero, i.size, i.bytes)) = some (some (.pointer none), 1, 8) := by kernel_rfl
instance : Siz Try.prog 93 1 := siz_of inf_93
instance : Byt Try.prog 93 8 := byt_of inf_93
instance : Zer Try.prog 93 (.pointer none) := zer_of inf_93
instance : Sca Try.prog 93 := ⟨_, Try.underlying93, rfl⟩
instance : IsPtr Try.prog 93 95 := ⟨Try.underlying93⟩
-- 94: struct { services []api.Service; parts []api.Part }
theorem inf_94 : (Try.prog.info? 94).map (fun i => (i.zero, i.size, i.bytes)) = some (some (.agg #[(.slice none 0 0), (.slice none 0 0)]), 2, 48) := by kernel_rfl
instance : Siz Try.prog 94 2 := siz_of inf_94
instance : Byt Try.prog 94 48 := byt_of inf_94
instance : Zer Try.prog 94 (.agg #[(.slice none 0 0), (.slice none 0 0)]) := zer_of inf_94
instance : Stc Try.prog 94 := ⟨_, Try.underlying94⟩
instance : Fo Try.prog 94 0 0 22 := ⟨_, _, Try.underlying94, rfl, rfl, rfl, by kernel_rfl, by kernel_rfl⟩
instance : Fo Try.prog 94 1 1 32 := ⟨_, _, Try.underlying94, rfl, rfl, rfl, by kernel_rfl, by kernel_rfl⟩
-- 95: mean.whole
theorem inf_95 : (Try.prog.info? 95).map (fun i => (i.zero, i.size, i.bytes)) = some (some (.agg #[(.slice none 0 0), (.slice none 0 0)]), 2, 48) := by kernel_rfl
instance : Siz Try.prog 95 2 := siz_of inf_95
instance : Byt Try.prog 95 48 := byt_of inf_95
instance : Zer Try.prog 95 (.agg #[(.slice none 0 0), (.slice none 0 0)]) := zer_of inf_95
instance : Stc Try.prog 95 := ⟨_, Try.underlying95⟩
instance : Fo Try.prog 95 0 0 22 := ⟨_, _, Try.underlying95, rfl, rfl, rfl, by kernel_rfl, by kernel_rfl⟩
instance : Fo Try.prog 95 1 1 32 := ⟨_, _, Try.underlying95, rfl, rfl, rfl, by kernel_rfl, by kernel_rfl⟩
-- 96: *api.Part
theorem inf_96 : (Try.prog.info? 96).map (fun i => (i.zero, i.size, i.bytes)) = some (some (.pointer none), 1, 8) := by kernel_rfl
instance : Siz Try.prog 96 1 := siz_of inf_96
instance : Byt Try.prog 96 8 := byt_of inf_96
instance : Zer Try.prog 96 (.pointer none) := zer_of inf_96
instance : Sca Try.prog 96 := ⟨_, Try.underlying96, rfl⟩
instance : IsPtr Try.prog 96 99 := ⟨Try.underlying96⟩
-- 97: []api.Owner
theorem inf_97 : (Try.prog.info? 97).map (fun i => (i.zero, i.size, i.bytes)) = some (some (.slice none 0 0), 1, 24) := by kernel_rfl
instance : Siz Try.prog 97 1 := siz_of inf_97
instance : Byt Try.prog 97 24 := byt_of inf_97
instance : Zer Try.prog 97 (.slice none 0 0) := zer_of inf_97
instance : Sca Try.prog 97 := ⟨_, Try.underlying97, rfl⟩
instance : Sli Try.prog 97 139 := ⟨Try.underlying97⟩
-- 98: struct { Type api.Type; Owners []api.Owner; Homes []api.Owner }
theorem inf_98 : (Try.prog.info? 98).map (fun i => (i.zero, i.size, i.bytes)) = some (some (.agg #[(.string ⟨#[]⟩), (.slice none 0 0), (.slice none 0 0), (.slice none 0 0)]), 4, 88) := by kernel_rfl
instance : Siz Try.prog 98 4 := siz_of inf_98
instance : Byt Try.prog 98 88 := byt_of inf_98
instance : Zer Try.prog 98 (.agg #[(.string ⟨#[]⟩), (.slice none 0 0), (.slice none 0 0), (.slice none 0 0)]) := zer_of inf_98
instance : Stc Try.prog 98 := ⟨_, Try.underlying98⟩
instance : Fo Try.prog 98 0 0 57 := ⟨_, _, Try.underlying98, rfl, rfl, rfl, by kernel_rfl, by kernel_rfl⟩
instance : Fo Try.prog 98 1 2 97 := ⟨_, _, Try.underlying98, rfl, rfl, rfl, by kernel_rfl, by kernel_rfl⟩
instance : Fo Try.prog 98 2 3 97 := ⟨_, _, Try.underlying98, rfl, rfl, rfl, by kernel_rfl, by kernel_rfl⟩
-- 99: api.Part
theorem inf_99 : (Try.prog.info? 99).map (fun i => (i.zero, i.size, i.bytes)) = some (some (.agg #[(.string ⟨#[]⟩), (.slice none 0 0), (.slice none 0 0), (.slice none 0 0)]), 4, 88) := by kernel_rfl
instance : Siz Try.prog 99 4 := siz_of inf_99
instance : Byt Try.prog 99 88 := byt_of inf_99
instance : Zer Try.prog 99 (.agg #[(.string ⟨#[]⟩), (.slice none 0 0), (.slice none 0 0), (.slice none 0 0)]) := zer_of inf_99
instance : Stc Try.prog 99 := ⟨_, Try.underlying99⟩
instance : Fo Try.prog 99 0 0 57 := ⟨_, _, Try.underlying99, rfl, rfl, rfl, by kernel_rfl, by kernel_rfl⟩
instance : Fo Try.prog 99 1 2 97 := ⟨_, _, Try.underlying99, rfl, rfl, rfl, by kernel_rfl, by kernel_rfl⟩
instance : Fo Try.prog 99 2 3 97 := ⟨_, _, Try.underlying99, rfl, rfl, rfl, by kernel_rfl, by kernel_rfl⟩
-- 100: func([]api.Part, string) int
theorem inf_100 : (Try.prog.info? 100).map (fun i => (i.zero, i.size, i.bytes)) = some (some (.nilFunc), 1, 8) := by kernel_rfl
instance : Siz Try.prog 100 1 := siz_of inf_100
instance : Byt Try.prog 100 8 := byt_of inf_100
instance : Zer Try.prog 100 (.nilFunc) := zer_of inf_100
instance : Sca Try.prog 100 := ⟨_, Try.underlying100, rfl⟩
-- 101: func(*api.Part, string) bool
theorem inf_101 : (Try.prog.info? 101).map (fun i => (i.zero, i.size, i.bytes)) = some (some (.nilFunc), 1, 8) := by kernel_rfl
instance : Siz Try.prog 101 1 := siz_of inf_101
instance : Byt Try.prog 101 8 := byt_of inf_101
instance : Zer Try.prog 101 (.nilFunc) := zer_of inf_101
instance : Sca Try.prog 101 := ⟨_, Try.underlying101, rfl⟩
-- 102: func(*api.Part, string, []api.Pick) []api.Got
theorem inf_102 : (Try.prog.info? 102).map (fun i => (i.zero, i.size, i.bytes)) = some (some (.nilFunc), 1, 8) := by kernel_rfl
instance : Siz Try.prog 102 1 := siz_of inf_102
instance : Byt Try.prog 102 8 := byt_of inf_102
instance : Zer Try.prog 102 (.nilFunc) := zer_of inf_102
instance : Sca Try.prog 102 := ⟨_, Try.underlying102, rfl⟩
-- 103: *gate.gate
theorem inf_103 : (Try.prog.info? 103).map (fun i => (i.zero, i.size, i.bytes)) = some (some (.pointer none), 1, 8) := by kernel_rfl
instance : Siz Try.prog 103 1 := siz_of inf_103
instance : Byt Try.prog 103 8 := byt_of inf_103
instance : Zer Try.prog 103 (.pointer none) := zer_of inf_103
instance : Sca Try.prog 103 := ⟨_, Try.underlying103, rfl⟩
instance : IsPtr Try.prog 103 105 := ⟨Try.underlying103⟩
-- 104: struct { services []api.Service; parts []api.Part; asked []api.Request }
theorem inf_104 : (Try.prog.info? 104).map (fun i => (i.zero, i.size, i.bytes)) = some (some (.agg #[(.slice none 0 0), (.slice none 0 0), (.slice none 0 0)]), 3, 72) := by kernel_rfl
instance : Siz Try.prog 104 3 := siz_of inf_104
instance : Byt Try.prog 104 72 := byt_of inf_104
instance : Zer Try.prog 104 (.agg #[(.slice none 0 0), (.slice none 0 0), (.slice none 0 0)]) := zer_of inf_104
instance : Stc Try.prog 104 := ⟨_, Try.underlying104⟩
instance : Fo Try.prog 104 0 0 22 := ⟨_, _, Try.underlying104, rfl, rfl, rfl, by kernel_rfl, by kernel_rfl⟩
instance : Fo Try.prog 104 1 1 32 := ⟨_, _, Try.underlying104, rfl, rfl, rfl, by kernel_rfl, by kernel_rfl⟩
instance : Fo Try.prog 104 2 2 43 := ⟨_, _, Try.underlying104, rfl, rfl, rfl, by kernel_rfl, by kernel_rfl⟩
-- 105: gate.gate
theorem inf_105 : (Try.prog.info? 105).map (fun i => (i.zero, i.size, i.bytes)) = some (some (.agg #[(.slice none 0 0), (.slice none 0 0), (.slice none 0 0)]), 3, 72) := by kernel_rfl
instance : Siz Try.prog 105 3 := siz_of inf_105
instance : Byt Try.prog 105 72 := byt_of inf_105
instance : Zer Try.prog 105 (.agg #[(.slice none 0 0), (.slice none 0 0), (.slice none 0 0)]) := zer_of inf_105
instance : Stc Try.prog 105 := ⟨_, Try.underlying105⟩
instance : Fo Try.prog 105 0 0 22 := ⟨_, _, Try.underlying105, rfl, rfl, rfl, by kernel_rfl, by kernel_rfl⟩
instance : Fo Try.prog 105 1 1 32 := ⟨_, _, Try.underlying105, rfl, rfl, rfl, by kernel_rfl, by kernel_rfl⟩
instance : Fo Try.prog 105 2 2 43 := ⟨_, _, Try.underlying105, rfl, rfl, rfl, by kernel_rfl, by kernel_rfl⟩
-- 107: map[string][]api.Got
theorem inf_107 : (Try.prog.info? 107).map (fun i => (i.zero, i.size, i.bytes)) = some (some (.map none), 1, 8) := by kernel_rfl
instance : Siz Try.prog 107 1 := siz_of inf_107
instance : Byt Try.prog 107 8 := byt_of inf_107
instance : Zer Try.prog 107 (.map none) := zer_of inf_107
instance : Sca Try.prog 107 := ⟨_, Try.underlying107, rfl⟩
instance : IsMap Try.prog 107 9 38 := ⟨Try.underlying107⟩
-- 108: func(*api.Part, []string, []api.Pick) map[string][]api.Got
theorem inf_108 : (Try.prog.info? 108).map (fun i => (i.zero, i.size, i.bytes)) = some (some (.nilFunc), 1, 8) := by kernel_rfl
instance : Siz Try.prog 108 1 := siz_of inf_108
instance : Byt Try.prog 108 8 := byt_of inf_108
instance : Zer Try.prog 108 (.nilFunc) := zer_of inf_108
instance : Sca Try.prog 108 := ⟨_, Try.underlying108, rfl⟩
-- 109: func([]api.Service, []api.Part, *api.Part, []string, []api.Pick) []api.Request
theorem inf_109 : (Try.prog.info? 109).map (fun i => (i.zero, i.size, i.bytes)) = some (some (.nilFunc), 1, 8) := by kernel_rfl
instance : Siz Try.prog 109 1 := siz_of inf_109
instance : Byt Try.prog 109 8 := byt_of inf_109
instance : Zer Try.prog 109 (.nilFunc) := zer_of inf_109
instance : Sca Try.prog 109 := ⟨_, Try.underlying109, rfl⟩
-- 110: func([]api.Part, string) *api.Part
theorem inf_110 : (Try.prog.info? 110).map (fun i => (i.zero, i.size, i.bytes)) = some (some (.nilFunc), 1, 8) := by kernel_rfl
instance : Siz Try.prog 110 1 := siz_of inf_110
instance : Byt Try.prog 110 8 := byt_of inf_110
instance : Zer Try.prog 110 (.nilFunc) := zer_of inf_110
instance : Sca Try.prog 110 := ⟨_, Try.underlying110, rfl⟩
-- 111: func([]string, []string) bool
theorem inf_111 : (Try.prog.info? 111).map (fun i => (i.zero, i.size, i.bytes)) = some (some (.nilFunc), 1, 8) := by kernel_rfl
instance : Siz Try.prog 111 1 := siz_of inf_111
instance : Byt Try.prog 111 8 := byt_of inf_111
instance : Zer Try.prog 111 (.nilFunc) := zer_of inf_111
instance : Sca Try.prog 111 := ⟨_, Try.underlying111, rfl⟩
-- 112: *api.Service
theorem inf_112 : (Try.prog.info? 112).map (fun i => (i.zero, i.size, i.bytes)) = some (some (.pointer none), 1, 8) := by kernel_rfl
instance : Siz Try.prog 112 1 := siz_of inf_112
instance : Byt Try.prog 112 8 := byt_of inf_112
instance : Zer Try.prog 112 (.pointer none) := zer_of inf_112
instance : Sca Try.prog 112 := ⟨_, Try.underlying112, rfl⟩
instance : IsPtr Try.prog 112 31 := ⟨Try.underlying112⟩
-- 113: func([]api.Type, string) int
theorem inf_113 : (Try.prog.info? 113).map (fun i => (i.zero, i.size, i.bytes)) = some (some (.nilFunc), 1, 8) := by kernel_rfl
instance : Siz Try.prog 113 1 := siz_of inf_113
instance : Byt Try.prog 113 8 := byt_of inf_113
instance : Zer Try.prog 113 (.nilFunc) := zer_of inf_113
instance : Sca Try.prog 113 := ⟨_, Try.underlying113, rfl⟩
-- 114: func([]api.Field, string) int
theorem inf_114 : (Try.prog.info? 114).map (fun i => (i.zero, i.size, i.bytes)) = some (some (.nilFunc), 1, 8) := by kernel_rfl
instance : Siz Try.prog 114 1 := siz_of inf_114
instance : Byt Try.prog 114 8 := byt_of inf_114
instance : Zer Try.prog 114 (.nilFunc) := zer_of inf_114
instance : Sca Try.prog 114 := ⟨_, Try.underlying114, rfl⟩
-- 115: func([]string, string) bool
theorem inf_115 : (Try.prog.info? 115).map (fun i => (i.zero, i.size, i.bytes)) = some (some (.nilFunc), 1, 8) := by kernel_rfl
instance : Siz Try.prog 115 1 := siz_of inf_115
instance : Byt Try.prog 115 8 := byt_of inf_115
instance : Zer Try.prog 115 (.nilFunc) := zer_of inf_115
instance : Sca Try.prog 115 := ⟨_, Try.underlying115, rfl⟩
-- 116: func([]api.Type) api.Fault
theorem inf_116 : (Try.prog.info? 116).map (fun i => (i.zero, i.size, i.bytes)) = some (some (.nilFunc), 1, 8) := by kernel_rfl
instance : Siz Try.prog 116 1 := siz_of inf_116
instance : Byt Try.prog 116 8 := byt_of inf_116
instance : Zer Try.prog 116 (.nilFunc) := zer_of inf_116
instance : Sca Try.prog 116 := ⟨_, Try.underlying116, rfl⟩
-- 117: change.view
theorem inf_117 : (Try.prog.info? 117).map (fun i => (i.zero, i.size, i.bytes)) = some (some (.slice none 0 0), 1, 24) := by kernel_rfl
instance : Siz Try.prog 117 1 := siz_of inf_117
instance : Byt Try.prog 117 24 := byt_of inf_117
instance : Zer Try.prog 117 (.slice none 0 0) := zer_of inf_117
instance : Sca Try.prog 117 := ⟨_, Try.underlying117, rfl⟩
instance : Sli Try.prog 117 59 := ⟨Try.underlying117⟩
-- 118: func([]api.Field) []api.Field
theorem inf_118 : (Try.prog.info? 118).map (fun i => (i.zero, i.size, i.bytes)) = some (some (.nilFunc), 1, 8) := by kernel_rfl
instance : Siz Try.prog 118 1 := siz_of inf_118
instance : Byt Try.prog 118 8 := byt_of inf_118
instance : Zer Try.prog 118 (.nilFunc) := zer_of inf_118
instance : Sca Try.prog 118 := ⟨_, Try.underlying118, rfl⟩
-- 119: func(*api.Change) api.Errno
theorem inf_119 : (Try.prog.info? 119).map (fun i => (i.zero, i.size, i.bytes)) = some (some (.nilFunc), 1, 8) := by kernel_rfl
instance : Siz Try.prog 119 1 := siz_of inf_119
instance : Byt Try.prog 119 8 := byt_of inf_119
instance : Zer Try.prog 119 (.nilFunc) := zer_of inf_119
instance : Sca Try.prog 119 := ⟨_, Try.underlying119, rfl⟩
-- 120: *api.Change
theorem inf_120 : (Try.prog.info? 120).map (fun i => (i.zero, i.size, i.bytes)) = some (some (.pointer none), 1, 8) := by kernel_rfl
instance : Siz Try.prog 120 1 := siz_of inf_120
instance : Byt Try.prog 120 8 := byt_of inf_120
instance : Zer Try.prog 120 (.pointer none) := zer_of inf_120
instance : Sca Try.prog 120 := ⟨_, Try.underlying120, rfl⟩
instance : IsPtr Try.prog 120 71 := ⟨Try.underlying120⟩
-- 121: []uint8
theorem inf_121 : (Try.prog.info? 121).map (fun i => (i.zero, i.size, i.bytes)) = some (some (.slice none 0 0), 1, 24) := by kernel_rfl
instance : Siz Try.prog 121 1 := siz_of inf_121
instance : Byt Try.prog 121 24 := byt_of inf_121
instance : Zer Try.prog 121 (.slice none 0 0) := zer_of inf_121
instance : Sca Try.prog 121 := ⟨_, Try.underlying121, rfl⟩
instance : Sli Try.prog 121 5 := ⟨Try.underlying121⟩
-- 122: struct { api.Fault }
theorem inf_122 : (Try.prog.info? 122).map (fun i => (i.zero, i.size, i.bytes)) = some (some (.agg #[(.int .i64 0), (.int .i64 0)]), 2, 16) := by kernel_rfl
instance : Siz Try.prog 122 2 := siz_of inf_122
instance : Byt Try.prog 122 16 := byt_of inf_122
instance : Zer Try.prog 122 (.agg #[(.int .i64 0), (.int .i64 0)]) := zer_of inf_122
instance : Stc Try.prog 122 := ⟨_, Try.underlying122⟩
instance : Fo Try.prog 122 0 0 35 := ⟨_, _, Try.underlying122, rfl, rfl, rfl, by kernel_rfl, by kernel_rfl⟩
-- 123: query.oops
theorem inf_123 : (Try.prog.info? 123).map (fun i => (i.zero, i.size, i.bytes)) = some (some (.agg #[(.int .i64 0), (.int .i64 0)]), 2, 16) := by kernel_rfl
instance : Siz Try.prog 123 2 := siz_of inf_123
instance : Byt Try.prog 123 16 := byt_of inf_123
instance : Zer Try.prog 123 (.agg #[(.int .i64 0), (.int .i64 0)]) := zer_of inf_123
instance : Stc Try.prog 123 := ⟨_, Try.underlying123⟩
instance : Fo Try.prog 123 0 0 35 := ⟨_, _, Try.underlying123, rfl, rfl, rfl, by kernel_rfl, by kernel_rfl⟩
-- 124: *query.reader
theorem inf_124 : (Try.prog.info? 124).map (fun i => (i.zero, i.size, i.bytes)) = some (some (.pointer none), 1, 8) := by kernel_rfl
instance : Siz Try.prog 124 1 := siz_of inf_124
instance : Byt Try.prog 124 8 := byt_of inf_124
instance : Zer Try.prog 124 (.pointer none) := zer_of inf_124
instance : Sca Try.prog 124 := ⟨_, Try.underlying124, rfl⟩
instance : IsPtr Try.prog 124 126 := ⟨Try.underlying124⟩
-- 125: struct { s string; at int; picks int }
theorem inf_125 : (Try.prog.info? 125).map (fun i => (i.zero, i.size, i.bytes)) = some (some (.agg #[(.string ⟨#[]⟩), (.int .i64 0), (.int .i64 0)]), 3, 32) := by kernel_rfl
instance : Siz Try.prog 125 3 := siz_of inf_125
instance : Byt Try.prog 125 32 := byt_of inf_125
instance : Zer Try.prog 125 (.agg #[(.string ⟨#[]⟩), (.int .i64 0), (.int .i64 0)]) := zer_of inf_125
instance : Stc Try.prog 125 := ⟨_, Try.underlying125⟩
instance : Fo Try.prog 125 0 0 9 := ⟨_, _, Try.underlying125, rfl, rfl, rfl, by kernel_rfl, by kernel_rfl⟩
instance : Fo Try.prog 125 1 1 3 := ⟨_, _, Try.underlying125, rfl, rfl, rfl, by kernel_rfl, by kernel_rfl⟩
instance : Fo Try.prog 125 2 2 3 := ⟨_, _, Try.underlying125, rfl, rfl, rfl, by kernel_rfl, by kernel_rfl⟩
-- 126: query.reader
theorem inf_126 : (Try.prog.info? 126).map (fun i => (i.zero, i.size, i.bytes)) = some (some (.agg #[(.string ⟨#[]⟩), (.int .i64 0), (.int .i64 0)]), 3, 32) := by kernel_rfl
instance : Siz Try.prog 126 3 := siz_of inf_126
instance : Byt Try.prog 126 32 := byt_of inf_126
instance : Zer Try.prog 126 (.agg #[(.string ⟨#[]⟩), (.int .i64 0), (.int .i64 0)]) := zer_of inf_126
instance : Stc Try.prog 126 := ⟨_, Try.underlying126⟩
instance : Fo Try.prog 126 0 0 9 := ⟨_, _, Try.underlying126, rfl, rfl, rfl, by kernel_rfl, by kernel_rfl⟩
instance : Fo Try.prog 126 1 1 3 := ⟨_, _, Try.underlying126, rfl, rfl, rfl, by kernel_rfl, by kernel_rfl⟩
instance : Fo Try.prog 126 2 2 3 := ⟨_, _, Try.underlying126, rfl, rfl, rfl, by kernel_rfl, by kernel_rfl⟩
-- 127: func() string
theorem inf_127 : (Try.prog.info? 127).map (fun i => (i.zero, i.size, i.bytes)) = some (some (.nilFunc), 1, 8) := by kernel_rfl
instance : Siz Try.prog 127 1 := siz_of inf_127
instance : Byt Try.prog 127 8 := byt_of inf_127
instance : Zer Try.prog 127 (.nilFunc) := zer_of inf_127
instance : Sca Try.prog 127 := ⟨_, Try.underlying127, rfl⟩
-- 128: func(uint8)
theorem inf_128 : (Try.prog.info? 128).map (fun i => (i.zero, i.size, i.bytes)) = some (some (.nilFunc), 1, 8) := by kernel_rfl
instance : Siz Try.prog 128 1 := siz_of inf_128
instance : Byt Try.prog 128 8 := byt_of inf_128
instance : Zer Try.prog 128 (.nilFunc) := zer_of inf_128
instance : Sca Try.prog 128 := ⟨_, Try.underlying128, rfl⟩
-- 129: func(int) []api.Pick
theorem inf_129 : (Try.prog.info? 129).map (fun i => (i.zero, i.size, i.bytes)) = some (some (.nilFunc), 1, 8) := by kernel_rfl
instance : Siz Try.prog 129 1 := siz_of inf_129
instance : Byt Try.prog 129 8 := byt_of inf_129
instance : Zer Try.prog 129 (.nilFunc) := zer_of inf_129
instance : Sca Try.prog 129 := ⟨_, Try.underlying129, rfl⟩
-- 130: func(api.Errno)
theorem inf_130 : (Try.prog.info? 130).map (fun i => (i.zero, i.size, i.bytes)) = some (some (.nilFunc), 1, 8) := by kernel_rfl
instance : Siz Try.prog 130 1 := siz_of inf_130
instance : Byt Try.prog 130 8 := byt_of inf_130
instance : Zer Try.prog 130 (.nilFunc) := zer_of inf_130
instance : Sca Try.prog 130 := ⟨_, Try.underlying130, rfl⟩
-- 131: func(api.Field, api.Val) api.Service
theorem inf_131 : (Try.prog.info? 131).map (fun i => (i.zero, i.size, i.bytes)) = some (some (.nilFunc), 1, 8) := by kernel_rfl
instance : Siz Try.prog 131 1 := siz_of inf_131
instance : Byt Try.prog 131 8 := byt_of inf_131
instance : Zer Try.prog 131 (.nilFunc) := zer_of inf_131
instance : Sca Try.prog 131 := ⟨_, Try.underlying131, rfl⟩
-- 132: func([]api.Type, []api.Thing) api.Fault
theorem inf_132 : (Try.prog.info? 132).map (fun i => (i.zero, i.size, i.bytes)) = some (some (.nilFunc), 1, 8) := by kernel_rfl
instance : Siz Try.prog 132 1 := siz_of inf_132
instance : Byt Try.prog 132 8 := byt_of inf_132
instance : Zer Try.prog 132 (.nilFunc) := zer_of inf_132
instance : Sca Try.prog 132 := ⟨_, Try.underlying132, rfl⟩
-- 134: func([]api.Part, string, func(api.Part, string) int) (int, bool)
theorem inf_134 : (Try.prog.info? 134).map (fun i => (i.zero, i.size, i.bytes)) = some (some (.nilFunc), 1, 8) := by kernel_rfl
instance : Siz Try.prog 134 1 := siz_of inf_134
instance : Byt Try.prog 134 8 := byt_of inf_134
instance : Zer Try.prog 134 (.nilFunc) := zer_of inf_134
instance : Sca Try.prog 134 := ⟨_, Try.underlying134, rfl⟩
-- 135: func(string, string) int
theorem inf_135 : (Try.prog.info? 135).map (fun i => (i.zero, i.size, i.bytes)) = some (some (.nilFunc), 1, 8) := by kernel_rfl
instance : Siz Try.prog 135 1 := siz_of inf_135
instance : Byt Try.prog 135 8 := byt_of inf_135
instance : Zer Try.prog 135 (.nilFunc) := zer_of inf_135
instance : Sca Try.prog 135 := ⟨_, Try.underlying135, rfl⟩
-- 136: func(api.Part, string) int
theorem inf_136 : (Try.prog.info? 136).map (fun i => (i.zero, i.size, i.bytes)) = some (some (.nilFunc), 1, 8) := by kernel_rfl
instance : Siz Try.prog 136 1 := siz_of inf_136
instance : Byt Try.prog 136 8 := byt_of inf_136
instance : Zer Try.prog 136 (.nilFunc) := zer_of inf_136
instance : Sca Try.prog 136 := ⟨_, Try.underlying136, rfl⟩
-- 137: func([]api.Part, int, ...api.Part) []api.Part
theorem inf_137 : (Try.prog.info? 137).map (fun i => (i.zero, i.size, i.bytes)) = some (some (.nilFunc), 1, 8) := by kernel_rfl
instance : Siz Try.prog 137 1 := siz_of inf_137
instance : Byt Try.prog 137 8 := byt_of inf_137
instance : Zer Try.prog 137 (.nilFunc) := zer_of inf_137
instance : Sca Try.prog 137 := ⟨_, Try.underlying137, rfl⟩
-- 138: struct { Service int; Type string; Field string }
theorem inf_138 : (Try.prog.info? 138).map (fun i => (i.zero, i.size, i.bytes)) = some (some (.agg #[(.int .i64 0), (.string ⟨#[]⟩), (.string ⟨#[]⟩)]), 3, 40) := by kernel_rfl
instance : Siz Try.prog 138 3 := siz_of inf_138
instance : Byt Try.prog 138 40 := byt_of inf_138
instance : Zer Try.prog 138 (.agg #[(.int .i64 0), (.string ⟨#[]⟩), (.string ⟨#[]⟩)]) := zer_of inf_138
instance : Stc Try.prog 138 := ⟨_, Try.underlying138⟩
instance : Fo Try.prog 138 0 0 3 := ⟨_, _, Try.underlying138, rfl, rfl, rfl, by kernel_rfl, by kernel_rfl⟩
instance : Fo Try.prog 138 1 1 9 := ⟨_, _, Try.underlying138, rfl, rfl, rfl, by kernel_rfl, by kernel_rfl⟩
instance : Fo Try.prog 138 2 2 9 := ⟨_, _, Try.underlying138, rfl, rfl, rfl, by kernel_rfl, by kernel_rfl⟩
-- 139: api.Owner
theorem inf_139 : (Try.prog.info? 139).map (fun i => (i.zero, i.size, i.bytes)) = some (some (.agg #[(.int .i64 0), (.string ⟨#[]⟩), (.string ⟨#[]⟩)]), 3, 40) := by kernel_rfl
instance : Siz Try.prog 139 3 := siz_of inf_139
instance : Byt Try.prog 139 40 := byt_of inf_139
instance : Zer Try.prog 139 (.agg #[(.int .i64 0), (.string ⟨#[]⟩), (.string ⟨#[]⟩)]) := zer_of inf_139
instance : Stc Try.prog 139 := ⟨_, Try.underlying139⟩
instance : Fo Try.prog 139 0 0 3 := ⟨_, _, Try.underlying139, rfl, rfl, rfl, by kernel_rfl, by kernel_rfl⟩
instance : Fo Try.prog 139 1 1 9 := ⟨_, _, Try.underlying139, rfl, rfl, rfl, by kernel_rfl, by kernel_rfl⟩
instance : Fo Try.prog 139 2 2 9 := ⟨_, _, Try.underlying139, rfl, rfl, rfl, by kernel_rfl, by kernel_rfl⟩
-- 140: func(api.Ask) api.Errno
theorem inf_140 : (Try.prog.info? 140).map (fun i => (i.zero, i.size, i.bytes)) = some (some (.nilFunc), 1, 8) := by kernel_rfl
instance : Siz Try.prog 140 1 := siz_of inf_140
instance : Byt Try.prog 140 8 := byt_of inf_140
instance : Zer Try.prog 140 (.nilFunc) := zer_of inf_140
instance : Sca Try.prog 140 := ⟨_, Try.underlying140, rfl⟩
-- 141: func([]api.Part, string, []api.Pick) api.Errno
theorem inf_141 : (Try.prog.info? 141).map (fun i => (i.zero, i.size, i.bytes)) = some (some (.nilFunc), 1, 8) := by kernel_rfl
instance : Siz Try.prog 141 1 := siz_of inf_141
instance : Byt Try.prog 141 8 := byt_of inf_141
instance : Zer Try.prog 141 (.nilFunc) := zer_of inf_141
instance : Sca Try.prog 141 := ⟨_, Try.underlying141, rfl⟩
-- 142: func([]api.Part, func(api.Part) bool) int
theorem inf_142 : (Try.prog.info? 142).map (fun i => (i.zero, i.size, i.bytes)) = some (some (.nilFunc), 1, 8) := by kernel_rfl
instance : Siz Try.prog 142 1 := siz_of inf_142
instance : Byt Try.prog 142 8 := byt_of inf_142
instance : Zer Try.prog 142 (.nilFunc) := zer_of inf_142
instance : Sca Try.prog 142 := ⟨_, Try.underlying142, rfl⟩
-- 143: func(api.Part) bool
theorem inf_143 : (Try.prog.info? 143).map (fun i => (i.zero, i.size, i.bytes)) = some (some (.nilFunc), 1, 8) := by kernel_rfl
instance : Siz Try.prog 143 1 := siz_of inf_143
instance : Byt Try.prog 143 8 := byt_of inf_143
instance : Zer Try.prog 143 (.nilFunc) := zer_of inf_143
instance : Sca Try.prog 143 := ⟨_, Try.underlying143, rfl⟩
-- 144: *api.Thing
theorem inf_144 : (Try.prog.info? 144).map (fun i => (i.zero, i.size, i.bytes)) = some (some (.pointer none), 1, 8) := by kernel_rfl
instance : Siz Try.prog 144 1 := siz_of inf_144
instance : Byt Try.prog 144 8 := byt_of inf_144
instance : Zer Try.prog 144 (.pointer none) := zer_of inf_144
instance : Sca Try.prog 144 := ⟨_, Try.underlying144, rfl⟩
instance : IsPtr Try.prog 144 64 := ⟨Try.underlying144⟩
-- 145: func(*api.Owner, string) *api.Thing
theorem inf_145 : (Try.prog.info? 145).map (fun i => (i.zero, i.size, i.bytes)) = some (some (.nilFunc), 1, 8) := by kernel_rfl
instance : Siz Try.prog 145 1 := siz_of inf_145
instance : Byt Try.prog 145 8 := byt_of inf_145
instance : Zer Try.prog 145 (.nilFunc) := zer_of inf_145
instance : Sca Try.prog 145 := ⟨_, Try.underlying145, rfl⟩
-- 146: *api.Owner
theorem inf_146 : (Try.prog.info? 146).map (fun i => (i.zero, i.size, i.bytes)) = some (some (.pointer none), 1, 8) := by kernel_rfl
instance : Siz Try.prog 146 1 := siz_of inf_146
instance : Byt Try.prog 146 8 := byt_of inf_146
instance : Zer Try.prog 146 (.pointer none) := zer_of inf_146
instance : Sca Try.prog 146 := ⟨_, Try.underlying146, rfl⟩
instance : IsPtr Try.prog 146 139 := ⟨Try.underlying146⟩
-- 147: func(*api.Part, string, *api.Pick) api.Got
theorem inf_147 : (Try.prog.info? 147).map (fun i => (i.zero, i.size, i.bytes)) = some (some (.nilFunc), 1, 8) := by kernel_rfl
instance : Siz Try.prog 147 1 := siz_of inf_147
instance : Byt Try.prog 147 8 := byt_of inf_147
instance : Zer Try.prog 147 (.nilFunc) := zer_of inf_147
instance : Sca Try.prog 147 := ⟨_, Try.underlying147, rfl⟩
-- 148: *api.Pick
theorem inf_148 : (Try.prog.info? 148).map (fun i => (i.zero, i.size, i.bytes)) = some (some (.pointer none), 1, 8) := by kernel_rfl
instance : Siz Try.prog 148 1 := siz_of inf_148
instance : Byt Try.prog 148 8 := byt_of inf_148
instance : Zer Try.prog 148 (.pointer none) := zer_of inf_148
instance : Sca Try.prog 148 := ⟨_, Try.underlying148, rfl⟩
instance : IsPtr Try.prog 148 87 := ⟨Try.underlying148⟩
-- 149: map[string]*gate.row
theorem inf_149 : (Try.prog.info? 149).map (fun i => (i.zero, i.size, i.bytes)) = some (some (.map none), 1, 8) := by kernel_rfl
instance : Siz Try.prog 149 1 := siz_of inf_149
instance : Byt Try.prog 149 8 := byt_of inf_149
instance : Zer Try.prog 149 (.map none) := zer_of inf_149
instance : Sca Try.prog 149 := ⟨_, Try.underlying149, rfl⟩
instance : IsMap Try.prog 149 9 154 := ⟨Try.underlying149⟩
-- 150: func(*api.Part, []string, []api.Pick) map[string]*gate.row
theorem inf_150 : (Try.prog.info? 150).map (fun i => (i.zero, i.size, i.bytes)) = some (some (.nilFunc), 1, 8) := by kernel_rfl
instance : Siz Try.prog 150 1 := siz_of inf_150
instance : Byt Try.prog 150 8 := byt_of inf_150
instance : Zer Try.prog 150 (.nilFunc) := zer_of inf_150
instance : Sca Try.prog 150 := ⟨_, Try.underlying150, rfl⟩
-- 151: map[string]api.Val
theorem inf_151 : (Try.prog.info? 151).map (fun i => (i.zero, i.size, i.bytes)) = some (some (.map none), 1, 8) := by kernel_rfl
instance : Siz Try.prog 151 1 := siz_of inf_151
instance : Byt Try.prog 151 8 := byt_of inf_151
instance : Zer Try.prog 151 (.map none) := zer_of inf_151
instance : Sca Try.prog 151 := ⟨_, Try.underlying151, rfl⟩
instance : IsMap Try.prog 151 9 73 := ⟨Try.underlying151⟩
-- 152: struct { there bool; vals map[string]api.Val }
theorem inf_152 : (Try.prog.info? 152).map (fun i => (i.zero, i.size, i.bytes)) = some (some (.agg #[(.bool false), (.map none)]), 2, 16) := by kernel_rfl
instance : Siz Try.prog 152 2 := siz_of inf_152
instance : Byt Try.prog 152 16 := byt_of inf_152
instance : Zer Try.prog 152 (.agg #[(.bool false), (.map none)]) := zer_of inf_152
instance : Stc Try.prog 152 := ⟨_, Try.underlying152⟩
instance : Fo Try.prog 152 0 0 4 := ⟨_, _, Try.underlying152, rfl, rfl, rfl, by kernel_rfl, by kernel_rfl⟩
instance : Fo Try.prog 152 1 1 151 := ⟨_, _, Try.underlying152, rfl, rfl, rfl, by kernel_rfl, by kernel_rfl⟩
-- 153: gate.row
theorem inf_153 : (Try.prog.info? 153).map (fun i => (i.zero, i.size, i.bytes)) = some (some (.agg #[(.bool false), (.map none)]), 2, 16) := by kernel_rfl
instance : Siz Try.prog 153 2 := siz_of inf_153
instance : Byt Try.prog 153 16 := byt_of inf_153
instance : Zer Try.prog 153 (.agg #[(.bool false), (.map none)]) := zer_of inf_153
instance : Stc Try.prog 153 := ⟨_, Try.underlying153⟩
instance : Fo Try.prog 153 0 0 4 := ⟨_, _, Try.underlying153, rfl, rfl, rfl, by kernel_rfl, by kernel_rfl⟩
instance : Fo Try.prog 153 1 1 151 := ⟨_, _, Try.underlying153, rfl, rfl, rfl, by kernel_rfl, by kernel_rfl⟩
-- 154: *gate.row
theorem inf_154 : (Try.prog.info? 154).map (fun i => (i.zero, i.size, i.bytes)) = some (some (.pointer none), 1, 8) := by kernel_rfl
instance : Siz Try.prog 154 1 := siz_of inf_154
instance : Byt Try.prog 154 8 := byt_of inf_154
instance : Zer Try.prog 154 (.pointer none) := zer_of inf_154
instance : Sca Try.prog 154 := ⟨_, Try.underlying154, rfl⟩
instance : IsPtr Try.prog 154 153 := ⟨Try.underlying154⟩
-- 155: func(*api.Part, []string, *api.Pick, map[string]*gate.row, map[string][]api.Got)
theorem inf_155 : (Try.prog.info? 155).map (fun i => (i.zero, i.size, i.bytes)) = some (some (.nilFunc), 1, 8) := by kernel_rfl
instance : Siz Try.prog 155 1 := siz_of inf_155
instance : Byt Try.prog 155 8 := byt_of inf_155
instance : Zer Try.prog 155 (.nilFunc) := zer_of inf_155
instance : Sca Try.prog 155 := ⟨_, Try.underlying155, rfl⟩
-- 156: func([]api.Service, *api.Part, string) bool
theorem inf_156 : (Try.prog.info? 156).map (fun i => (i.zero, i.size, i.bytes)) = some (some (.nilFunc), 1, 8) := by kernel_rfl
instance : Siz Try.prog 156 1 := siz_of inf_156
instance : Byt Try.prog 156 8 := byt_of inf_156
instance : Zer Try.prog 156 (.nilFunc) := zer_of inf_156
instance : Sca Try.prog 156 := ⟨_, Try.underlying156, rfl⟩
-- 157: func([]api.Service, []api.Part, *api.Part, string, []api.Pick) []api.Got
theorem inf_157 : (Try.prog.info? 157).map (fun i => (i.zero, i.size, i.bytes)) = some (some (.nilFunc), 1, 8) := by kernel_rfl
instance : Siz Try.prog 157 1 := siz_of inf_157
instance : Byt Try.prog 157 8 := byt_of inf_157
instance : Zer Try.prog 157 (.nilFunc) := zer_of inf_157
instance : Sca Try.prog 157 := ⟨_, Try.underlying157, rfl⟩
-- 158: [][]string
theorem inf_158 : (Try.prog.info? 158).map (fun i => (i.zero, i.size, i.bytes)) = some (some (.slice none 0 0), 1, 24) := by kernel_rfl
instance : Siz Try.prog 158 1 := siz_of inf_158
instance : Byt Try.prog 158 24 := byt_of inf_158
instance : Zer Try.prog 158 (.slice none 0 0) := zer_of inf_158
instance : Sca Try.prog 158 := ⟨_, Try.underlying158, rfl⟩
instance : Sli Try.prog 158 47 := ⟨Try.underlying158⟩
-- 159: struct { Own []string; Called []string; Fields [][]string }
theorem inf_159 : (Try.prog.info? 159).map (fun i => (i.zero, i.size, i.bytes)) = some (some (.agg #[(.slice none 0 0), (.slice none 0 0), (.slice none 0 0)]), 3, 72) := by kernel_rfl
instance : Siz Try.prog 159 3 := siz_of inf_159
instance : Byt Try.prog 159 72 := byt_of inf_159
instance : Zer Try.prog 159 (.agg #[(.slice none 0 0), (.slice none 0 0), (.slice none 0 0)]) := zer_of inf_159
instance : Stc Try.prog 159 := ⟨_, Try.underlying159⟩
instance : Fo Try.prog 159 0 0 47 := ⟨_, _, Try.underlying159, rfl, rfl, rfl, by kernel_rfl, by kernel_rfl⟩
instance : Fo Try.prog 159 1 1 47 := ⟨_, _, Try.underlying159, rfl, rfl, rfl, by kernel_rfl, by kernel_rfl⟩
instance : Fo Try.prog 159 2 2 158 := ⟨_, _, Try.underlying159, rfl, rfl, rfl, by kernel_rfl, by kernel_rfl⟩
-- 160: stitchref1.Seen
theorem inf_160 : (Try.prog.info? 160).map (fun i => (i.zero, i.size, i.bytes)) = some (some (.agg #[(.slice none 0 0), (.slice none 0 0), (.slice none 0 0)]), 3, 72) := by kernel_rfl
instance : Siz Try.prog 160 3 := siz_of inf_160
instance : Byt Try.prog 160 72 := byt_of inf_160
instance : Zer Try.prog 160 (.agg #[(.slice none 0 0), (.slice none 0 0), (.slice none 0 0)]) := zer_of inf_160
instance : Stc Try.prog 160 := ⟨_, Try.underlying160⟩
instance : Fo Try.prog 160 0 0 47 := ⟨_, _, Try.underlying160, rfl, rfl, rfl, by kernel_rfl, by kernel_rfl⟩
instance : Fo Try.prog 160 1 1 47 := ⟨_, _, Try.underlying160, rfl, rfl, rfl, by kernel_rfl, by kernel_rfl⟩
instance : Fo Try.prog 160 2 2 158 := ⟨_, _, Try.underlying160, rfl, rfl, rfl, by kernel_rfl, by kernel_rfl⟩
-- 162: func([]api.Type, []api.Change) (stitchref1.Seen, api.Fault)
theorem inf_162 : (Try.prog.info? 162).map (fun i => (i.zero, i.size, i.bytes)) = some (some (.nilFunc), 1, 8) := by kernel_rfl
instance : Siz Try.prog 162 1 := siz_of inf_162
instance : Byt Try.prog 162 8 := byt_of inf_162
instance : Zer Try.prog 162 (.nilFunc) := zer_of inf_162
instance : Sca Try.prog 162 := ⟨_, Try.underlying162, rfl⟩
-- 164: func([]api.Type) ([]api.Type, [][]string)
theorem inf_164 : (Try.prog.info? 164).map (fun i => (i.zero, i.size, i.bytes)) = some (some (.nilFunc), 1, 8) := by kernel_rfl
instance : Siz Try.prog 164 1 := siz_of inf_164
instance : Byt Try.prog 164 8 := byt_of inf_164
instance : Zer Try.prog 164 (.nilFunc) := zer_of inf_164
instance : Sca Try.prog 164 := ⟨_, Try.underlying164, rfl⟩
-- 165: func([]api.Field, string) bool
theorem inf_165 : (Try.prog.info? 165).map (fun i => (i.zero, i.size, i.bytes)) = some (some (.nilFunc), 1, 8) := by kernel_rfl
instance : Siz Try.prog 165 1 := siz_of inf_165
instance : Byt Try.prog 165 8 := byt_of inf_165
instance : Zer Try.prog 165 (.nilFunc) := zer_of inf_165
instance : Sca Try.prog 165 := ⟨_, Try.underlying165, rfl⟩
-- 166: func([]api.Thing, string, string) *api.Thing
theorem inf_166 : (Try.prog.info? 166).map (fun i => (i.zero, i.size, i.bytes)) = some (some (.nilFunc), 1, 8) := by kernel_rfl
instance : Siz Try.prog 166 1 := siz_of inf_166
instance : Byt Try.prog 166 8 := byt_of inf_166
instance : Zer Try.prog 166 (.nilFunc) := zer_of inf_166
instance : Sca Try.prog 166 := ⟨_, Try.underlying166, rfl⟩
-- 167: func([]api.Type, func(api.Type) bool) int
theorem inf_167 : (Try.prog.info? 167).map (fun i => (i.zero, i.size, i.bytes)) = some (some (.nilFunc), 1, 8) := by kernel_rfl
instance : Siz Try.prog 167 1 := siz_of inf_167
instance : Byt Try.prog 167 8 := byt_of inf_167
instance : Zer Try.prog 167 (.nilFunc) := zer_of inf_167
instance : Sca Try.prog 167 := ⟨_, Try.underlying167, rfl⟩
-- 168: func(api.Type) bool
theorem inf_168 : (Try.prog.info? 168).map (fun i => (i.zero, i.size, i.bytes)) = some (some (.nilFunc), 1, 8) := by kernel_rfl
instance : Siz Try.prog 168 1 := siz_of inf_168
instance : Byt Try.prog 168 8 := byt_of inf_168
instance : Zer Try.prog 168 (.nilFunc) := zer_of inf_168
instance : Sca Try.prog 168 := ⟨_, Try.underlying168, rfl⟩
-- 169: func([]api.Field, func(api.Field) bool) int
theorem inf_169 : (Try.prog.info? 169).map (fun i => (i.zero, i.size, i.bytes)) = some (some (.nilFunc), 1, 8) := by kernel_rfl
instance : Siz Try.prog 169 1 := siz_of inf_169
instance : Byt Try.prog 169 8 := byt_of inf_169
instance : Zer Try.prog 169 (.nilFunc) := zer_of inf_169
instance : Sca Try.prog 169 := ⟨_, Try.underlying169, rfl⟩
-- 170: func(api.Field) bool
theorem inf_170 : (Try.prog.info? 170).map (fun i => (i.zero, i.size, i.bytes)) = some (some (.nilFunc), 1, 8) := by kernel_rfl
instance : Siz Try.prog 170 1 := siz_of inf_170
instance : Byt Try.prog 170 8 := byt_of inf_170
instance : Zer Try.prog 170 (.nilFunc) := zer_of inf_170
instance : Sca Try.prog 170 := ⟨_, Try.underlying170, rfl⟩
-- 171: func([]string, string) int
theorem inf_171 : (Try.prog.info? 171).map (fun i => (i.zero, i.size, i.bytes)) = some (some (.nilFunc), 1, 8) := by kernel_rfl
instance : Siz Try.prog 171 1 := siz_of inf_171
instance : Byt Try.prog 171 8 := byt_of inf_171
instance : Zer Try.prog 171 (.nilFunc) := zer_of inf_171
instance : Sca Try.prog 171 := ⟨_, Try.underlying171, rfl⟩
-- 172: func([]api.Type, *api.Type) api.Errno
theorem inf_172 : (Try.prog.info? 172).map (fun i => (i.zero, i.size, i.bytes)) = some (some (.nilFunc), 1, 8) := by kernel_rfl
instance : Siz Try.prog 172 1 := siz_of inf_172
instance : Byt Try.prog 172 8 := byt_of inf_172
instance : Zer Try.prog 172 (.nilFunc) := zer_of inf_172
instance : Sca Try.prog 172 := ⟨_, Try.underlying172, rfl⟩
-- 173: *api.Type
theorem inf_173 : (Try.prog.info? 173).map (fun i => (i.zero, i.size, i.bytes)) = some (some (.pointer none), 1, 8) := by kernel_rfl
instance : Siz Try.prog 173 1 := siz_of inf_173
instance : Byt Try.prog 173 8 := byt_of inf_173
instance : Zer Try.prog 173 (.pointer none) := zer_of inf_173
instance : Sca Try.prog 173 := ⟨_, Try.underlying173, rfl⟩
instance : IsPtr Try.prog 173 57 := ⟨Try.underlying173⟩
-- 174: func(string) int
theorem inf_174 : (Try.prog.info? 174).map (fun i => (i.zero, i.size, i.bytes)) = some (some (.nilFunc), 1, 8) := by kernel_rfl
instance : Siz Try.prog 174 1 := siz_of inf_174
instance : Byt Try.prog 174 8 := byt_of inf_174
instance : Zer Try.prog 174 (.nilFunc) := zer_of inf_174
instance : Sca Try.prog 174 := ⟨_, Try.underlying174, rfl⟩
-- 175: func(int, string)
theorem inf_175 : (Try.prog.info? 175).map (fun i => (i.zero, i.size, i.bytes)) = some (some (.nilFunc), 1, 8) := by kernel_rfl
instance : Siz Try.prog 175 1 := siz_of inf_175
instance : Byt Try.prog 175 8 := byt_of inf_175
instance : Zer Try.prog 175 (.nilFunc) := zer_of inf_175
instance : Sca Try.prog 175 := ⟨_, Try.underlying175, rfl⟩
-- 176: func([]api.Field, int, int) []api.Field
theorem inf_176 : (Try.prog.info? 176).map (fun i => (i.zero, i.size, i.bytes)) = some (some (.nilFunc), 1, 8) := by kernel_rfl
instance : Siz Try.prog 176 1 := siz_of inf_176
instance : Byt Try.prog 176 8 := byt_of inf_176
instance : Zer Try.prog 176 (.nilFunc) := zer_of inf_176
instance : Sca Try.prog 176 := ⟨_, Try.underlying176, rfl⟩
-- 177: func([]string, int, int) []string
theorem inf_177 : (Try.prog.info? 177).map (fun i => (i.zero, i.size, i.bytes)) = some (some (.nilFunc), 1, 8) := by kernel_rfl
instance : Siz Try.prog 177 1 := siz_of inf_177
instance : Byt Try.prog 177 8 := byt_of inf_177
instance : Zer Try.prog 177 (.nilFunc) := zer_of inf_177
instance : Sca Try.prog 177 := ⟨_, Try.underlying177, rfl⟩
-- 178: func(uint8) bool
theorem inf_178 : (Try.prog.info? 178).map (fun i => (i.zero, i.size, i.bytes)) = some (some (.nilFunc), 1, 8) := by kernel_rfl
instance : Siz Try.prog 178 1 := siz_of inf_178
instance : Byt Try.prog 178 8 := byt_of inf_178
instance : Zer Try.prog 178 (.nilFunc) := zer_of inf_178
instance : Sca Try.prog 178 := ⟨_, Try.underlying178, rfl⟩
-- 179: func(int) api.Pick
theorem inf_179 : (Try.prog.info? 179).map (fun i => (i.zero, i.size, i.bytes)) = some (some (.nilFunc), 1, 8) := by kernel_rfl
instance : Siz Try.prog 179 1 := siz_of inf_179
instance : Byt Try.prog 179 8 := byt_of inf_179
instance : Zer Try.prog 179 (.nilFunc) := zer_of inf_179
instance : Sca Try.prog 179 := ⟨_, Try.underlying179, rfl⟩
-- 180: func([]api.Thing, func(api.Thing) bool) bool
theorem inf_180 : (Try.prog.info? 180).map (fun i => (i.zero, i.size, i.bytes)) = some (some (.nilFunc), 1, 8) := by kernel_rfl
instance : Siz Try.prog 180 1 := siz_of inf_180
instance : Byt Try.prog 180 8 := byt_of inf_180
instance : Zer Try.prog 180 (.nilFunc) := zer_of inf_180
instance : Sca Try.prog 180 := ⟨_, Try.underlying180, rfl⟩
-- 181: func(api.Thing) bool
theorem inf_181 : (Try.prog.info? 181).map (fun i => (i.zero, i.size, i.bytes)) = some (some (.nilFunc), 1, 8) := by kernel_rfl
instance : Siz Try.prog 181 1 := siz_of inf_181
instance : Byt Try.prog 181 8 := byt_of inf_181
instance : Zer Try.prog 181 (.nilFunc) := zer_of inf_181
instance : Sca Try.prog 181 := ⟨_, Try.underlying181, rfl⟩
-- 182: func(*api.Type, []api.Val) api.Errno
theorem inf_182 : (Try.prog.info? 182).map (fun i => (i.zero, i.size, i.bytes)) = some (some (.nilFunc), 1, 8) := by kernel_rfl
instance : Siz Try.prog 182 1 := siz_of inf_182
instance : Byt Try.prog 182 8 := byt_of inf_182
instance : Zer Try.prog 182 (.nilFunc) := zer_of inf_182
instance : Sca Try.prog 182 := ⟨_, Try.underlying182, rfl⟩
-- 183: uint
theorem inf_183 : (Try.prog.info? 183).map (fun i => (i.zero, i.size, i.bytes)) = some (some (.int .u64 0), 1, 8) := by kernel_rfl
instance : Siz Try.prog 183 1 := siz_of inf_183
instance : Byt Try.prog 183 8 := byt_of inf_183
instance : Zer Try.prog 183 (.int .u64 0) := zer_of inf_183
instance : Sca Try.prog 183 := ⟨_, Try.underlying183, rfl⟩
instance : IsInt Try.prog 183 .u64 := ⟨Try.underlying183⟩
-- 184: func([]api.Part, []api.Part) bool
theorem inf_184 : (Try.prog.info? 184).map (fun i => (i.zero, i.size, i.bytes)) = some (some (.nilFunc), 1, 8) := by kernel_rfl
instance : Siz Try.prog 184 1 := siz_of inf_184
instance : Byt Try.prog 184 8 := byt_of inf_184
instance : Zer Try.prog 184 (.nilFunc) := zer_of inf_184
instance : Sca Try.prog 184 := ⟨_, Try.underlying184, rfl⟩
-- 185: func([]api.Part, int)
theorem inf_185 : (Try.prog.info? 185).map (fun i => (i.zero, i.size, i.bytes)) = some (some (.nilFunc), 1, 8) := by kernel_rfl
instance : Siz Try.prog 185 1 := siz_of inf_185
instance : Byt Try.prog 185 8 := byt_of inf_185
instance : Zer Try.prog 185 (.nilFunc) := zer_of inf_185
instance : Sca Try.prog 185 := ⟨_, Try.underlying185, rfl⟩
-- 186: func([]api.Pick, int, *int) api.Errno
theorem inf_186 : (Try.prog.info? 186).map (fun i => (i.zero, i.size, i.bytes)) = some (some (.nilFunc), 1, 8) := by kernel_rfl
instance : Siz Try.prog 186 1 := siz_of inf_186
instance : Byt Try.prog 186 8 := byt_of inf_186
instance : Zer Try.prog 186 (.nilFunc) := zer_of inf_186
instance : Sca Try.prog 186 := ⟨_, Try.underlying186, rfl⟩
-- 187: *int
theorem inf_187 : (Try.prog.info? 187).map (fun i => (i.zero, i.size, i.bytes)) = some (some (.pointer none), 1, 8) := by kernel_rfl
instance : Siz Try.prog 187 1 := siz_of inf_187
instance : Byt Try.prog 187 8 := byt_of inf_187
instance : Zer Try.prog 187 (.pointer none) := zer_of inf_187
instance : Sca Try.prog 187 := ⟨_, Try.underlying187, rfl⟩
instance : IsPtr Try.prog 187 3 := ⟨Try.underlying187⟩
-- 188: func([]api.Pick, func(api.Pick) bool) bool
theorem inf_188 : (Try.prog.info? 188).map (fun i => (i.zero, i.size, i.bytes)) = some (some (.nilFunc), 1, 8) := by kernel_rfl
instance : Siz Try.prog 188 1 := siz_of inf_188
instance : Byt Try.prog 188 8 := byt_of inf_188
instance : Zer Try.prog 188 (.nilFunc) := zer_of inf_188
instance : Sca Try.prog 188 := ⟨_, Try.underlying188, rfl⟩
-- 189: func(api.Pick) string
theorem inf_189 : (Try.prog.info? 189).map (fun i => (i.zero, i.size, i.bytes)) = some (some (.nilFunc), 1, 8) := by kernel_rfl
instance : Siz Try.prog 189 1 := siz_of inf_189
instance : Byt Try.prog 189 8 := byt_of inf_189
instance : Zer Try.prog 189 (.nilFunc) := zer_of inf_189
instance : Sca Try.prog 189 := ⟨_, Try.underlying189, rfl⟩
-- 190: func(api.Pick) bool
theorem inf_190 : (Try.prog.info? 190).map (fun i => (i.zero, i.size, i.bytes)) = some (some (.nilFunc), 1, 8) := by kernel_rfl
instance : Siz Try.prog 190 1 := siz_of inf_190
instance : Byt Try.prog 190 8 := byt_of inf_190
instance : Zer Try.prog 190 (.nilFunc) := zer_of inf_190
instance : Sca Try.prog 190 := ⟨_, Try.underlying190, rfl⟩
-- 191: func([]api.Thing, func(api.Thing) bool) int
theorem inf_191 : (Try.prog.info? 191).map (fun i => (i.zero, i.size, i.bytes)) = some (some (.nilFunc), 1, 8) := by kernel_rfl
instance : Siz Try.prog 191 1 := siz_of inf_191
instance : Byt Try.prog 191 8 := byt_of inf_191
instance : Zer Try.prog 191 (.nilFunc) := zer_of inf_191
instance : Sca Try.prog 191 := ⟨_, Try.underlying191, rfl⟩
-- 193: func(*api.Part, int, string) (api.Val, bool)
theorem inf_193 : (Try.prog.info? 193).map (fun i => (i.zero, i.size, i.bytes)) = some (some (.nilFunc), 1, 8) := by kernel_rfl
instance : Siz Try.prog 193 1 := siz_of inf_193
instance : Byt Try.prog 193 8 := byt_of inf_193
instance : Zer Try.prog 193 (.nilFunc) := zer_of inf_193
instance : Sca Try.prog 193 := ⟨_, Try.underlying193, rfl⟩
-- 194: func([]string) []string
theorem inf_194 : (Try.prog.info? 194).map (fun i => (i.zero, i.size, i.bytes)) = some (some (.nilFunc), 1, 8) := by kernel_rfl
instance : Siz Try.prog 194 1 := siz_of inf_194
instance : Byt Try.prog 194 8 := byt_of inf_194
instance : Zer Try.prog 194 (.nilFunc) := zer_of inf_194
instance : Sca Try.prog 194 := ⟨_, Try.underlying194, rfl⟩
-- 195: []bool
theorem inf_195 : (Try.prog.info? 195).map (fun i => (i.zero, i.size, i.bytes)) = some (some (.slice none 0 0), 1, 24) := by kernel_rfl
instance : Siz Try.prog 195 1 := siz_of inf_195
instance : Byt Try.prog 195 24 := byt_of inf_195
instance : Zer Try.prog 195 (.slice none 0 0) := zer_of inf_195
instance : Sca Try.prog 195 := ⟨_, Try.underlying195, rfl⟩
instance : Sli Try.prog 195 4 := ⟨Try.underlying195⟩
-- 196: [][]api.Val
theorem inf_196 : (Try.prog.info? 196).map (fun i => (i.zero, i.size, i.bytes)) = some (some (.slice none 0 0), 1, 24) := by kernel_rfl
instance : Siz Try.prog 196 1 := siz_of inf_196
instance : Byt Try.prog 196 24 := byt_of inf_196
instance : Zer Try.prog 196 (.slice none 0 0) := zer_of inf_196
instance : Sca Try.prog 196 := ⟨_, Try.underlying196, rfl⟩
instance : Sli Try.prog 196 62 := ⟨Try.underlying196⟩
-- 197: struct { Found []bool; Vals [][]api.Val }
theorem inf_197 : (Try.prog.info? 197).map (fun i => (i.zero, i.size, i.bytes)) = some (some (.agg #[(.slice none 0 0), (.slice none 0 0)]), 2, 48) := by kernel_rfl
instance : Siz Try.prog 197 2 := siz_of inf_197
instance : Byt Try.prog 197 48 := byt_of inf_197
instance : Zer Try.prog 197 (.agg #[(.slice none 0 0), (.slice none 0 0)]) := zer_of inf_197
instance : Stc Try.prog 197 := ⟨_, Try.underlying197⟩
instance : Fo Try.prog 197 0 0 195 := ⟨_, _, Try.underlying197, rfl, rfl, rfl, by kernel_rfl, by kernel_rfl⟩
instance : Fo Try.prog 197 1 1 196 := ⟨_, _, Try.underlying197, rfl, rfl, rfl, by kernel_rfl, by kernel_rfl⟩
-- 198: api.Reply
theorem inf_198 : (Try.prog.info? 198).map (fun i => (i.zero, i.size, i.bytes)) = some (some (.agg #[(.slice none 0 0), (.slice none 0 0)]), 2, 48) := by kernel_rfl
instance : Siz Try.prog 198 2 := siz_of inf_198
instance : Byt Try.prog 198 48 := byt_of inf_198
instance : Zer Try.prog 198 (.agg #[(.slice none 0 0), (.slice none 0 0)]) := zer_of inf_198
instance : Stc Try.prog 198 := ⟨_, Try.underlying198⟩
instance : Fo Try.prog 198 0 0 195 := ⟨_, _, Try.underlying198, rfl, rfl, rfl, by kernel_rfl, by kernel_rfl⟩
instance : Fo Try.prog 198 1 1 196 := ⟨_, _, Try.underlying198, rfl, rfl, rfl, by kernel_rfl, by kernel_rfl⟩
-- 200: func([]api.Service, api.Request) (api.Reply, api.Errno)
theorem inf_200 : (Try.prog.info? 200).map (fun i => (i.zero, i.size, i.bytes)) = some (some (.nilFunc), 1, 8) := by kernel_rfl
instance : Siz Try.prog 200 1 := siz_of inf_200
instance : Byt Try.prog 200 8 := byt_of inf_200
instance : Zer Try.prog 200 (.nilFunc) := zer_of inf_200
instance : Sca Try.prog 200 := ⟨_, Try.underlying200, rfl⟩
-- 201: func([]api.Got) []api.Got
theorem inf_201 : (Try.prog.info? 201).map (fun i => (i.zero, i.size, i.bytes)) = some (some (.nilFunc), 1, 8) := by kernel_rfl
instance : Siz Try.prog 201 1 := siz_of inf_201
instance : Byt Try.prog 201 8 := byt_of inf_201
instance : Zer Try.prog 201 (.nilFunc) := zer_of inf_201
instance : Sca Try.prog 201 := ⟨_, Try.underlying201, rfl⟩
-- 202: func(api.Change) api.Errno
theorem inf_202 : (Try.prog.info? 202).map (fun i => (i.zero, i.size, i.bytes)) = some (some (.nilFunc), 1, 8) := by kernel_rfl
instance : Siz Try.prog 202 1 := siz_of inf_202
instance : Byt Try.prog 202 8 := byt_of inf_202
instance : Zer Try.prog 202 (.nilFunc) := zer_of inf_202
instance : Sca Try.prog 202 := ⟨_, Try.underlying202, rfl⟩
-- 203: *stitchref1.Seen
theorem inf_203 : (Try.prog.info? 203).map (fun i => (i.zero, i.size, i.bytes)) = some (some (.pointer none), 1, 8) := by kernel_rfl
instance : Siz Try.prog 203 1 := siz_of inf_203
instance : Byt Try.prog 203 8 := byt_of inf_203
instance : Zer Try.prog 203 (.pointer none) := zer_of inf_203
instance : Sca Try.prog 203 := ⟨_, Try.underlying203, rfl⟩
instance : IsPtr Try.prog 203 160 := ⟨Try.underlying203⟩
-- 204: func(change.view, func(api.Seen) bool) int
theorem inf_204 : (Try.prog.info? 204).map (fun i => (i.zero, i.size, i.bytes)) = some (some (.nilFunc), 1, 8) := by kernel_rfl
instance : Siz Try.prog 204 1 := siz_of inf_204
instance : Byt Try.prog 204 8 := byt_of inf_204
instance : Zer Try.prog 204 (.nilFunc) := zer_of inf_204
instance : Sca Try.prog 204 := ⟨_, Try.underlying204, rfl⟩
-- 205: func(api.Seen) bool
theorem inf_205 : (Try.prog.info? 205).map (fun i => (i.zero, i.size, i.bytes)) = some (some (.nilFunc), 1, 8) := by kernel_rfl
instance : Siz Try.prog 205 1 := siz_of inf_205
instance : Byt Try.prog 205 8 := byt_of inf_205
instance : Zer Try.prog 205 (.nilFunc) := zer_of inf_205
instance : Sca Try.prog 205 := ⟨_, Try.underlying205, rfl⟩
-- 206: *api.Field
theorem inf_206 : (Try.prog.info? 206).map (fun i => (i.zero, i.size, i.bytes)) = some (some (.pointer none), 1, 8) := by kernel_rfl
instance : Siz Try.prog 206 1 := siz_of inf_206
instance : Byt Try.prog 206 8 := byt_of inf_206
instance : Zer Try.prog 206 (.pointer none) := zer_of inf_206
instance : Sca Try.prog 206 := ⟨_, Try.underlying206, rfl⟩
instance : IsPtr Try.prog 206 68 := ⟨Try.underlying206⟩
-- 207: func([]string, func(string) bool) bool
theorem inf_207 : (Try.prog.info? 207).map (fun i => (i.zero, i.size, i.bytes)) = some (some (.nilFunc), 1, 8) := by kernel_rfl
instance : Siz Try.prog 207 1 := siz_of inf_207
instance : Byt Try.prog 207 8 := byt_of inf_207
instance : Zer Try.prog 207 (.nilFunc) := zer_of inf_207
instance : Sca Try.prog 207 := ⟨_, Try.underlying207, rfl⟩
-- 208: func([]api.Pick, func(api.Pick) bool) int
theorem inf_208 : (Try.prog.info? 208).map (fun i => (i.zero, i.size, i.bytes)) = some (some (.nilFunc), 1, 8) := by kernel_rfl
instance : Siz Try.prog 208 1 := siz_of inf_208
instance : Byt Try.prog 208 8 := byt_of inf_208
instance : Zer Try.prog 208 (.nilFunc) := zer_of inf_208
instance : Sca Try.prog 208 := ⟨_, Try.underlying208, rfl⟩
-- 209: func([]api.Val, func(api.Val) bool) int
theorem inf_209 : (Try.prog.info? 209).map (fun i => (i.zero, i.size, i.bytes)) = some (some (.nilFunc), 1, 8) := by kernel_rfl
instance : Siz Try.prog 209 1 := siz_of inf_209
instance : Byt Try.prog 209 8 := byt_of inf_209
instance : Zer Try.prog 209 (.nilFunc) := zer_of inf_209
instance : Sca Try.prog 209 := ⟨_, Try.underlying209, rfl⟩
-- 210: func(api.Val) bool
theorem inf_210 : (Try.prog.info? 210).map (fun i => (i.zero, i.size, i.bytes)) = some (some (.nilFunc), 1, 8) := by kernel_rfl
instance : Siz Try.prog 210 1 := siz_of inf_210
instance : Byt Try.prog 210 8 := byt_of inf_210
instance : Zer Try.prog 210 (.nilFunc) := zer_of inf_210
instance : Sca Try.prog 210 := ⟨_, Try.underlying210, rfl⟩
-- 211: func(*api.Service, string, string) *api.Thing
theorem inf_211 : (Try.prog.info? 211).map (fun i => (i.zero, i.size, i.bytes)) = some (some (.nilFunc), 1, 8) := by kernel_rfl
instance : Siz Try.prog 211 1 := siz_of inf_211
instance : Byt Try.prog 211 8 := byt_of inf_211
instance : Zer Try.prog 211 (.nilFunc) := zer_of inf_211
instance : Sca Try.prog 211 := ⟨_, Try.underlying211, rfl⟩
-- 213: func([]api.Pick, int, int) (api.Errno, int)
theorem inf_213 : (Try.prog.info? 213).map (fun i => (i.zero, i.size, i.bytes)) = some (some (.nilFunc), 1, 8) := by kernel_rfl
instance : Siz Try.prog 213 1 := siz_of inf_213
instance : Byt Try.prog 213 8 := byt_of inf_213
instance : Zer Try.prog 213 (.nilFunc) := zer_of inf_213
instance : Sca Try.prog 213 := ⟨_, Try.underlying213, rfl⟩
-- 214: func([]api.Type, string) *api.Type
theorem inf_214 : (Try.prog.info? 214).map (fun i => (i.zero, i.size, i.bytes)) = some (some (.nilFunc), 1, 8) := by kernel_rfl
instance : Siz Try.prog 214 1 := siz_of inf_214
instance : Byt Try.prog 214 8 := byt_of inf_214
instance : Zer Try.prog 214 (.nilFunc) := zer_of inf_214
instance : Sca Try.prog 214 := ⟨_, Try.underlying214, rfl⟩
-- 215: func(api.Errno) api.Fault
theorem inf_215 : (Try.prog.info? 215).map (fun i => (i.zero, i.size, i.bytes)) = some (some (.nilFunc), 1, 8) := by kernel_rfl
instance : Siz Try.prog 215 1 := siz_of inf_215
instance : Byt Try.prog 215 8 := byt_of inf_215
instance : Zer Try.prog 215 (.nilFunc) := zer_of inf_215
instance : Sca Try.prog 215 := ⟨_, Try.underlying215, rfl⟩
-- 216: func([]string, func(string) bool) int
theorem inf_216 : (Try.prog.info? 216).map (fun i => (i.zero, i.size, i.bytes)) = some (some (.nilFunc), 1, 8) := by kernel_rfl
instance : Siz Try.prog 216 1 := siz_of inf_216
instance : Byt Try.prog 216 8 := byt_of inf_216
instance : Zer Try.prog 216 (.nilFunc) := zer_of inf_216
instance : Sca Try.prog 216 := ⟨_, Try.underlying216, rfl⟩
-- 217: func([]api.Part)
theorem inf_217 : (Try.prog.info? 217).map (fun i => (i.zero, i.size, i.bytes)) = some (some (.nilFunc), 1, 8) := by kernel_rfl
instance : Siz Try.prog 217 1 := siz_of inf_217
instance : Byt Try.prog 217 8 := byt_of inf_217
instance : Zer Try.prog 217 (.nilFunc) := zer_of inf_217
instance : Sca Try.prog 217 := ⟨_, Try.underlying217, rfl⟩
-- 223: func() int
theorem inf_223 : (Try.prog.info? 223).map (fun i => (i.zero, i.size, i.bytes)) = some (some (.nilFunc), 1, 8) := by kernel_rfl
instance : Siz Try.prog 223 1 := siz_of inf_223
instance : Byt Try.prog 223 8 := byt_of inf_223
instance : Zer Try.prog 223 (.nilFunc) := zer_of inf_223
instance : Sca Try.prog 223 := ⟨_, Try.underlying223, rfl⟩
-- 224: uint32
theorem inf_224 : (Try.prog.info? 224).map (fun i => (i.zero, i.size, i.bytes)) = some (some (.int .u32 0), 1, 4) := by kernel_rfl
instance : Siz Try.prog 224 1 := siz_of inf_224
instance : Byt Try.prog 224 4 := byt_of inf_224
instance : Zer Try.prog 224 (.int .u32 0) := zer_of inf_224
instance : Sca Try.prog 224 := ⟨_, Try.underlying224, rfl⟩
instance : IsInt Try.prog 224 .u32 := ⟨Try.underlying224⟩
-- 228: *uint8
theorem inf_228 : (Try.prog.info? 228).map (fun i => (i.zero, i.size, i.bytes)) = some (some (.pointer none), 1, 8) := by kernel_rfl
instance : Siz Try.prog 228 1 := siz_of inf_228
instance : Byt Try.prog 228 8 := byt_of inf_228
instance : Zer Try.prog 228 (.pointer none) := zer_of inf_228
instance : Sca Try.prog 228 := ⟨_, Try.underlying228, rfl⟩
instance : IsPtr Try.prog 228 5 := ⟨Try.underlying228⟩
instance : Fun Try.prog 3 := ⟨_, Try.func3, by kernel_rfl, rfl⟩ -- stitchery/stitchlaw6.MeanOrder
instance : Fun Try.prog 4 := ⟨_, Try.func4, by kernel_rfl, rfl⟩ -- stitchery/stitchlaw7.GateTells
instance : Fun Try.prog 5 := ⟨_, Try.func5, by kernel_rfl, rfl⟩ -- stitchery/stitchlaw7.GateRight
instance : Fun Try.prog 6 := ⟨_, Try.func6, by kernel_rfl, rfl⟩ -- stitchery/stitchlaw7.GateFew
instance : Fun Try.prog 7 := ⟨_, Try.func7, by kernel_rfl, rfl⟩ -- stitchery/stitchlaw7.GateHidden
instance : Fun Try.prog 8 := ⟨_, Try.func8, by kernel_rfl, rfl⟩ -- stitchery/stitchlaw7.GateOthers
instance : Fun Try.prog 9 := ⟨_, Try.func9, by kernel_rfl, rfl⟩ -- stitchery/stitchlaw7.GateMoved
instance : Fun Try.prog 10 := ⟨_, Try.func10, by kernel_rfl, rfl⟩ -- stitchery/stitchlaw7.GateMeans
instance : Fun Try.prog 11 := ⟨_, Try.func11, by kernel_rfl, rfl⟩ -- stitchery/stitchtop.TopCalled
instance : Fun Try.prog 12 := ⟨_, Try.func12, by kernel_rfl, rfl⟩ -- stitchery/stitchtop.TopHalf
instance : Fun Try.prog 13 := ⟨_, Try.func13, by kernel_rfl, rfl⟩ -- stitchery/stitchtop.TopText
instance : Fun Try.prog 14 := ⟨_, Try.func14, by kernel_rfl, rfl⟩ -- stitchery/stitchlaw6.alive
instance : Fun Try.prog 15 := ⟨_, Try.func15, by kernel_rfl, rfl⟩ -- stitchery/merge.All
instance : Fun Try.prog 16 := ⟨_, Try.func16, by kernel_rfl, rfl⟩ -- stitchery/mean.Mean
instance : Fun Try.prog 17 := ⟨_, Try.func17, by kernel_rfl, rfl⟩ -- stitchery/stitchref4.SameGot
instance : Fun Try.prog 18 := ⟨_, Try.func18, by kernel_rfl, rfl⟩ -- stitchery/gate.Run
instance : Fun Try.prog 19 := ⟨_, Try.func19, by kernel_rfl, rfl⟩ -- stitchery/stitchref4.Run
instance : Fun Try.prog 20 := ⟨_, Try.func20, by kernel_rfl, rfl⟩ -- stitchery/stitchref4.SameRequests
instance : Fun Try.prog 21 := ⟨_, Try.func21, by kernel_rfl, rfl⟩ -- stitchery/stitchlaw7.alive
instance : Fun Try.prog 22 := ⟨_, Try.func22, by kernel_rfl, rfl⟩ -- stitchery/serve.Wrong
instance : Fun Try.prog 23 := ⟨_, Try.func23, by kernel_rfl, rfl⟩ -- stitchery/stitchref4.Lists
instance : Fun Try.prog 24 := ⟨_, Try.func24, by kernel_rfl, rfl⟩ -- stitchery/change.See
instance : Fun Try.prog 25 := ⟨_, Try.func25, by kernel_rfl, rfl⟩ -- stitchery/stitchtop.alive
instance : Fun Try.prog 26 := ⟨_, Try.func26, by kernel_rfl, rfl⟩ -- stitchery/schema.Named
instance : Fun Try.prog 27 := ⟨_, Try.func27, by kernel_rfl, rfl⟩ -- stitchery/stitchtop.word
instance : Fun Try.prog 28 := ⟨_, Try.func28, by kernel_rfl, rfl⟩ -- stitchery/stitchtop.run
instance : Fun Try.prog 29 := ⟨_, Try.func29, by kernel_rfl, rfl⟩ -- stitchery/stitchtop.people
instance : Fun Try.prog 30 := ⟨_, Try.func30, by kernel_rfl, rfl⟩ -- stitchery/stitchtop.key
instance : Fun Try.prog 31 := ⟨_, Try.func31, by kernel_rfl, rfl⟩ -- stitchery/query.Parse
instance : Fun Try.prog 32 := ⟨_, Try.func32, by kernel_rfl, rfl⟩ -- stitchery/stitchlaw6.two
instance : Fun Try.prog 33 := ⟨_, Try.func33, by kernel_rfl, rfl⟩ -- stitchery/merge.Wrong
instance : Fun Try.prog 34 := ⟨_, Try.func34, by kernel_rfl, rfl⟩ -- stitchery/merge.add
instance : Fun Try.prog 35 := ⟨_, Try.func35, by kernel_rfl, rfl⟩ -- stitchery/query.Check
instance : Fun Try.prog 36 := ⟨_, Try.func36, by kernel_rfl, rfl⟩ -- stitchery/merge.Find
instance : Fun Try.prog 37 := ⟨_, Try.func37, by kernel_rfl, rfl⟩ -- (*stitchery/mean.whole).there
instance : Fun Try.prog 38 := ⟨_, Try.func38, by kernel_rfl, rfl⟩ -- (*stitchery/mean.whole).thing
instance : Fun Try.prog 39 := ⟨_, Try.func39, by kernel_rfl, rfl⟩ -- (*stitchery/gate.gate).things
instance : Fun Try.prog 40 := ⟨_, Try.func40, by kernel_rfl, rfl⟩ -- stitchery/stitchref4.Mean
instance : Fun Try.prog 41 := ⟨_, Try.func41, by kernel_rfl, rfl⟩ -- stitchery/stitchref1.All
instance : Fun Try.prog 42 := ⟨_, Try.func42, by kernel_rfl, rfl⟩ -- stitchery/stitchref4.Asks
instance : Fun Try.prog 43 := ⟨_, Try.func43, by kernel_rfl, rfl⟩ -- stitchery/stitchref1.Part
instance : Fun Try.prog 44 := ⟨_, Try.func44, by kernel_rfl, rfl⟩ -- stitchery/stitchref1.SameTexts
instance : Fun Try.prog 45 := ⟨_, Try.func45, by kernel_rfl, rfl⟩ -- stitchery/stitchlaw7.two
instance : Fun Try.prog 46 := ⟨_, Try.func46, by kernel_rfl, rfl⟩ -- stitchery/schema.Find
instance : Fun Try.prog 47 := ⟨_, Try.func47, by kernel_rfl, rfl⟩ -- stitchery/schema.Field
instance : Fun Try.prog 48 := ⟨_, Try.func48, by kernel_rfl, rfl⟩ -- slices.Contains[[]string,string]
instance : Fun Try.prog 49 := ⟨_, Try.func49, by kernel_rfl, rfl⟩ -- stitchery/schema.Wrong
instance : Fun Try.prog 50 := ⟨_, Try.func50, by kernel_rfl, rfl⟩ -- slices.Clone[[]stitchery/api.Field,stitchery/api.Field]
instance : Fun Try.prog 51 := ⟨_, Try.func51, by kernel_rfl, rfl⟩ -- (stitchery/change.view).do
instance : Fun Try.prog 52 := ⟨_, Try.func52, by kernel_rfl, rfl⟩ -- stitchery/query.Parse$1
instance : Fun Try.prog 53 := ⟨_, Try.func53, by kernel_rfl, rfl⟩ -- (*stitchery/query.reader).name
instance : Fun Try.prog 54 := ⟨_, Try.func54, by kernel_rfl, rfl⟩ -- (*stitchery/query.reader).must
instance : Fun Try.prog 55 := ⟨_, Try.func55, by kernel_rfl, rfl⟩ -- (*stitchery/query.reader).list
instance : Fun Try.prog 56 := ⟨_, Try.func56, by kernel_rfl, rfl⟩ -- (*stitchery/query.reader).blank
instance : Fun Try.prog 57 := ⟨_, Try.func57, by kernel_rfl, rfl⟩ -- (*stitchery/query.reader).fail
instance : Fun Try.prog 58 := ⟨_, Try.func58, by kernel_rfl, rfl⟩ -- stitchery/stitchlaw6.two$1
instance : Fun Try.prog 59 := ⟨_, Try.func59, by kernel_rfl, rfl⟩ -- stitchery/schema.Things
instance : Fun Try.prog 60 := ⟨_, Try.func60, by kernel_rfl, rfl⟩ -- slices.BinarySearchFunc[[]stitchery/api.Part,stitchery/api.Part,string]
instance : Fun Try.prog 61 := ⟨_, Try.func61, by kernel_rfl, rfl⟩ -- stitchery/merge.add$1
instance : Fun Try.prog 62 := ⟨_, Try.func62, by kernel_rfl, rfl⟩ -- cmp.Compare[string]
instance : Fun Try.prog 63 := ⟨_, Try.func63, by kernel_rfl, rfl⟩ -- slices.Insert[[]stitchery/api.Part,stitchery/api.Part]
instance : Fun Try.prog 64 := ⟨_, Try.func64, by kernel_rfl, rfl⟩ -- stitchery/query.Wrong
instance : Fun Try.prog 65 := ⟨_, Try.func65, by kernel_rfl, rfl⟩ -- stitchery/query.picks
instance : Fun Try.prog 66 := ⟨_, Try.func66, by kernel_rfl, rfl⟩ -- slices.IndexFunc[[]stitchery/api.Part,stitchery/api.Part]
instance : Fun Try.prog 67 := ⟨_, Try.func67, by kernel_rfl, rfl⟩ -- stitchery/merge.Find$1
instance : Fun Try.prog 68 := ⟨_, Try.func68, by kernel_rfl, rfl⟩ -- (*stitchery/mean.whole).find
instance : Fun Try.prog 69 := ⟨_, Try.func69, by kernel_rfl, rfl⟩ -- (*stitchery/mean.whole).pick
instance : Fun Try.prog 70 := ⟨_, Try.func70, by kernel_rfl, rfl⟩ -- (*stitchery/gate.gate).fetch
instance : Fun Try.prog 71 := ⟨_, Try.func71, by kernel_rfl, rfl⟩ -- (*stitchery/gate.gate).pick
instance : Fun Try.prog 72 := ⟨_, Try.func72, by kernel_rfl, rfl⟩ -- stitchery/stitchref4.Check
instance : Fun Try.prog 73 := ⟨_, Try.func73, by kernel_rfl, rfl⟩ -- stitchery/stitchref4.There
instance : Fun Try.prog 74 := ⟨_, Try.func74, by kernel_rfl, rfl⟩ -- stitchery/stitchref4.Get
instance : Fun Try.prog 75 := ⟨_, Try.func75, by kernel_rfl, rfl⟩ -- stitchery/stitchref1.WrongServices
instance : Fun Try.prog 76 := ⟨_, Try.func76, by kernel_rfl, rfl⟩ -- stitchery/stitchref1.See
instance : Fun Try.prog 77 := ⟨_, Try.func77, by kernel_rfl, rfl⟩ -- (*stitchery/stitchref1.Seen).Types
instance : Fun Try.prog 78 := ⟨_, Try.func78, by kernel_rfl, rfl⟩ -- stitchery/stitchref1.Has
instance : Fun Try.prog 79 := ⟨_, Try.func79, by kernel_rfl, rfl⟩ -- stitchery/stitchref1.At
instance : Fun Try.prog 80 := ⟨_, Try.func80, by kernel_rfl, rfl⟩ -- stitchery/stitchref1.Thing
instance : Fun Try.prog 81 := ⟨_, Try.func81, by kernel_rfl, rfl⟩ -- stitchery/stitchlaw7.two$1
instance : Fun Try.prog 82 := ⟨_, Try.func82, by kernel_rfl, rfl⟩ -- slices.IndexFunc[[]stitchery/api.Type,stitchery/api.Type]
instance : Fun Try.prog 83 := ⟨_, Try.func83, by kernel_rfl, rfl⟩ -- stitchery/schema.Find$1
instance : Fun Try.prog 84 := ⟨_, Try.func84, by kernel_rfl, rfl⟩ -- slices.IndexFunc[[]stitchery/api.Field,stitchery/api.Field]
instance : Fun Try.prog 85 := ⟨_, Try.func85, by kernel_rfl, rfl⟩ -- stitchery/schema.Field$1
instance : Fun Try.prog 86 := ⟨_, Try.func86, by kernel_rfl, rfl⟩ -- slices.Index[[]string,string]
instance : Fun Try.prog 87 := ⟨_, Try.func87, by kernel_rfl, rfl⟩ -- stitchery/schema.fields
instance : Fun Try.prog 88 := ⟨_, Try.func88, by kernel_rfl, rfl⟩ -- (stitchery/change.view).find
instance : Fun Try.prog 89 := ⟨_, Try.func89, by kernel_rfl, rfl⟩ -- (stitchery/change.view).call
instance : Fun Try.prog 90 := ⟨_, Try.func90, by kernel_rfl, rfl⟩ -- slices.Delete[[]stitchery/api.Field,stitchery/api.Field]
instance : Fun Try.prog 91 := ⟨_, Try.func91, by kernel_rfl, rfl⟩ -- slices.Delete[[]string,string]
instance : Fun Try.prog 92 := ⟨_, Try.func92, by kernel_rfl, rfl⟩ -- (*stitchery/query.reader).eat
instance : Fun Try.prog 93 := ⟨_, Try.func93, by kernel_rfl, rfl⟩ -- (*stitchery/query.reader).pick
instance : Fun Try.prog 94 := ⟨_, Try.func94, by kernel_rfl, rfl⟩ -- slices.ContainsFunc[[]stitchery/api.Thing,stitchery/api.Thing]
instance : Fun Try.prog 95 := ⟨_, Try.func95, by kernel_rfl, rfl⟩ -- stitchery/schema.Things$1
instance : Fun Try.prog 96 := ⟨_, Try.func96, by kernel_rfl, rfl⟩ -- stitchery/schema.vals
instance : Fun Try.prog 97 := ⟨_, Try.func97, by kernel_rfl, rfl⟩ -- cmp.isNaN[string]
instance : Fun Try.prog 99 := ⟨_, Try.func99, by kernel_rfl, rfl⟩ -- slices.rotateRight[stitchery/api.Part]
instance : Fun Try.prog 100 := ⟨_, Try.func100, by kernel_rfl, rfl⟩ -- stitchery/query.shape
instance : Fun Try.prog 101 := ⟨_, Try.func101, by kernel_rfl, rfl⟩ -- slices.ContainsFunc[[]stitchery/api.Pick,stitchery/api.Pick]
instance : Fun Try.prog 102 := ⟨_, Try.func102, by kernel_rfl, rfl⟩ -- stitchery/query.picks$1
instance : Fun Try.prog 103 := ⟨_, Try.func103, by kernel_rfl, rfl⟩ -- stitchery/query.Called
instance : Fun Try.prog 104 := ⟨_, Try.func104, by kernel_rfl, rfl⟩ -- slices.IndexFunc[[]stitchery/api.Thing,stitchery/api.Thing]
instance : Fun Try.prog 105 := ⟨_, Try.func105, by kernel_rfl, rfl⟩ -- (*stitchery/mean.whole).find$1
instance : Fun Try.prog 106 := ⟨_, Try.func106, by kernel_rfl, rfl⟩ -- (*stitchery/mean.whole).val
instance : Fun Try.prog 107 := ⟨_, Try.func107, by kernel_rfl, rfl⟩ -- slices.Clone[[]string,string]
instance : Fun Try.prog 108 := ⟨_, Try.func108, by kernel_rfl, rfl⟩ -- stitchery/serve.Answer
instance : Fun Try.prog 109 := ⟨_, Try.func109, by kernel_rfl, rfl⟩ -- stitchery/gate.own
instance : Fun Try.prog 110 := ⟨_, Try.func110, by kernel_rfl, rfl⟩ -- stitchery/stitchref4.Wrong
instance : Fun Try.prog 111 := ⟨_, Try.func111, by kernel_rfl, rfl⟩ -- stitchery/stitchref4.Goes
instance : Fun Try.prog 112 := ⟨_, Try.func112, by kernel_rfl, rfl⟩ -- stitchery/stitchref4.Called
instance : Fun Try.prog 113 := ⟨_, Try.func113, by kernel_rfl, rfl⟩ -- stitchery/stitchref1.WrongThings
instance : Fun Try.prog 114 := ⟨_, Try.func114, by kernel_rfl, rfl⟩ -- stitchery/stitchref1.Wrong
instance : Fun Try.prog 115 := ⟨_, Try.func115, by kernel_rfl, rfl⟩ -- (*stitchery/stitchref1.Seen).Do
instance : Fun Try.prog 116 := ⟨_, Try.func116, by kernel_rfl, rfl⟩ -- stitchery/stitchref1.place
instance : Fun Try.prog 117 := ⟨_, Try.func117, by kernel_rfl, rfl⟩ -- slices.IndexFunc[stitchery/change.view,stitchery/api.Seen]
instance : Fun Try.prog 118 := ⟨_, Try.func118, by kernel_rfl, rfl⟩ -- (stitchery/change.view).find$1
instance : Fun Try.prog 119 := ⟨_, Try.func119, by kernel_rfl, rfl⟩ -- slices.ContainsFunc[[]string,string]
instance : Fun Try.prog 120 := ⟨_, Try.func120, by kernel_rfl, rfl⟩ -- stitchery/schema.vals$1
instance : Fun Try.prog 121 := ⟨_, Try.func121, by kernel_rfl, rfl⟩ -- slices.rotateLeft[stitchery/api.Part]
instance : Fun Try.prog 122 := ⟨_, Try.func122, by kernel_rfl, rfl⟩ -- slices.IndexFunc[[]stitchery/api.Pick,stitchery/api.Pick]
instance : Fun Try.prog 123 := ⟨_, Try.func123, by kernel_rfl, rfl⟩ -- slices.IndexFunc[[]stitchery/api.Val,stitchery/api.Val]
instance : Fun Try.prog 124 := ⟨_, Try.func124, by kernel_rfl, rfl⟩ -- (*stitchery/mean.whole).val$1
instance : Fun Try.prog 125 := ⟨_, Try.func125, by kernel_rfl, rfl⟩ -- stitchery/serve.thing
instance : Fun Try.prog 126 := ⟨_, Try.func126, by kernel_rfl, rfl⟩ -- stitchery/stitchref1.Named
instance : Fun Try.prog 127 := ⟨_, Try.func127, by kernel_rfl, rfl⟩ -- stitchery/stitchref4.Shape
instance : Fun Try.prog 128 := ⟨_, Try.func128, by kernel_rfl, rfl⟩ -- stitchery/stitchref1.Type
instance : Fun Try.prog 129 := ⟨_, Try.func129, by kernel_rfl, rfl⟩ -- stitchery/stitchref1.WrongVals
instance : Fun Try.prog 130 := ⟨_, Try.func130, by kernel_rfl, rfl⟩ -- stitchery/stitchref1.Wrong$1
instance : Fun Try.prog 131 := ⟨_, Try.func131, by kernel_rfl, rfl⟩ -- slices.IndexFunc[[]string,string]
instance : Fun Try.prog 132 := ⟨_, Try.func132, by kernel_rfl, rfl⟩ -- slices.Reverse[[]stitchery/api.Part,stitchery/api.Part]
instance : Fun Try.prog 133 := ⟨_, Try.func133, by kernel_rfl, rfl⟩ -- stitchery/serve.thing$1
theorem mixed : Try.prog.follows .mixedOrders = true := by kernel_rfl
end Go.Proofs.Ytgckpmcdlciibac
