/- The facts on the program's types and functions, off the translation, by program (wip/inst.py). -/
import Derived.Test.YtgckpmcdlciibaaRows
import Derived.Test.YtgckpmcdlciibaaZA
namespace Go.Proofs.Ytgckpmcdlciibaa
theorem siz_of {P : Program} {t : TypeId} {z : Value} {k b : Nat} (h : (P.info? t).map (fun i => (i.zero, i.size, i.bytes)) = some (some z, k, b)) : Siz P t k := ⟨by
  cases hi : P.info? t with
  | none => rw [hi] at h; cases h
  | some i => rw [hi] at h; simp at h; exact ⟨i, rfl, h.2.1⟩⟩
theorem byt_of {P : Program} {t : TypeId} {z : Value} {k b : Nat} (h : (P.info? t).map (fun i => (i.zero, i.size, i.bytes)) = some (some z, k, b)) : Byt P t b := ⟨by
  cases hi : P.info? t with
  | none => rw [hi] at h; cases h
  | some i => rw [hi] at h; simp at h; exact ⟨i, rfl, h.2.2⟩⟩
theorem zer_of {P : Program} {t : TypeId} {z : Value} {k b : Nat} (h : (P.info? t).map (fun i => (i.zero, i.size, i.bytes)) = some (some z, k, b)) : Zer P t z := ⟨by
  cases hi : P.info? t with
  | none => rw [hi] at h; cases h
  | some i => rw [hi] at h; simp at h; exact ⟨i, rfl, h.1⟩⟩
-- 1: func()
theorem inf_1 : (Try.prog.info? 1).map (fun i => (i.zero, i.size, i.bytes)) = some (some (.nilFunc), 1, 8) := by kernel_rfl
instance : Siz Try.prog 1 1 := siz_of inf_1
instance : Byt Try.prog 1 8 := byt_of inf_1
instance : Zer Try.prog 1 (.nilFunc) := zer_of inf_1
instance : Sca Try.prog 1 := ⟨_, Try.underlying1, rfl⟩
-- 2: int64
theorem inf_2 : (Try.prog.info? 2).map (fun i => (i.zero, i.size, i.bytes)) = some (some (.int .i64 0), 1, 8) := by kernel_rfl
instance : Siz Try.prog 2 1 := siz_of inf_2
instance : Byt Try.prog 2 8 := byt_of inf_2
instance : Zer Try.prog 2 (.int .i64 0) := zer_of inf_2
instance : Sca Try.prog 2 := ⟨_, Try.underlying2, rfl⟩
instance : IsInt Try.prog 2 .i64 := ⟨Try.underlying2⟩
-- 3: int
theorem inf_3 : (Try.prog.info? 3).map (fun i => (i.zero, i.size, i.bytes)) = some (some (.int .i64 0), 1, 8) := by kernel_rfl
instance : Siz Try.prog 3 1 := siz_of inf_3
instance : Byt Try.prog 3 8 := byt_of inf_3
instance : Zer Try.prog 3 (.int .i64 0) := zer_of inf_3
instance : Sca Try.prog 3 := ⟨_, Try.underlying3, rfl⟩
instance : IsInt Try.prog 3 .i64 := ⟨Try.underlying3⟩
-- 4: bool
theorem inf_4 : (Try.prog.info? 4).map (fun i => (i.zero, i.size, i.bytes)) = some (some (.bool false), 1, 1) := by kernel_rfl
instance : Siz Try.prog 4 1 := siz_of inf_4
instance : Byt Try.prog 4 1 := byt_of inf_4
instance : Zer Try.prog 4 (.bool false) := zer_of inf_4
instance : Sca Try.prog 4 := ⟨_, Try.underlying4, rfl⟩
-- 5: uint8
theorem inf_5 : (Try.prog.info? 5).map (fun i => (i.zero, i.size, i.bytes)) = some (some (.int .u8 0), 1, 1) := by kernel_rfl
instance : Siz Try.prog 5 1 := siz_of inf_5
instance : Byt Try.prog 5 1 := byt_of inf_5
instance : Zer Try.prog 5 (.int .u8 0) := zer_of inf_5
instance : Sca Try.prog 5 := ⟨_, Try.underlying5, rfl⟩
instance : IsInt Try.prog 5 .u8 := ⟨Try.underlying5⟩
-- 9: string
theorem inf_9 : (Try.prog.info? 9).map (fun i => (i.zero, i.size, i.bytes)) = some (some (.string ⟨#[]⟩), 1, 16) := by kernel_rfl
instance : Siz Try.prog 9 1 := siz_of inf_9
instance : Byt Try.prog 9 16 := byt_of inf_9
instance : Zer Try.prog 9 (.string ⟨#[]⟩) := zer_of inf_9
instance : Sca Try.prog 9 := ⟨_, Try.underlying9, rfl⟩
instance : IsStr Try.prog 9 := ⟨Try.underlying9⟩
-- 19: maps.unhashableTypeError
theorem inf_19 : (Try.prog.info? 19).map (fun i => (i.zero, i.size, i.bytes)) = some (some (.agg #[(.pointer none)]), 1, 8) := by kernel_rfl
instance : Siz Try.prog 19 1 := siz_of inf_19
instance : Byt Try.prog 19 8 := byt_of inf_19
instance : Zer Try.prog 19 (.agg #[(.pointer none)]) := zer_of inf_19
instance : Stc Try.prog 19 := ⟨_, Try.underlying19⟩
instance : Fo Try.prog 19 0 0 17 := ⟨_, _, Try.underlying19, rfl, rfl, rfl, by kernel_rfl, by kernel_rfl⟩
-- 20: interface {}
theorem inf_20 : (Try.prog.info? 20).map (fun i => (i.zero, i.size, i.bytes)) = some (some (.nilIface), 1, 16) := by kernel_rfl
instance : Siz Try.prog 20 1 := siz_of inf_20
instance : Byt Try.prog 20 16 := byt_of inf_20
instance : Zer Try.prog 20 (.nilIface) := zer_of inf_20
instance : Sca Try.prog 20 := ⟨_, Try.underlying20, rfl⟩
-- 21: int32
theorem inf_21 : (Try.prog.info? 21).map (fun i => (i.zero, i.size, i.bytes)) = some (some (.int .i32 0), 1, 4) := by kernel_rfl
instance : Siz Try.prog 21 1 := siz_of inf_21
instance : Byt Try.prog 21 4 := byt_of inf_21
instance : Zer Try.prog 21 (.int .i32 0) := zer_of inf_21
instance : Sca Try.prog 21 := ⟨_, Try.underlying21, rfl⟩
instance : IsInt Try.prog 21 .i32 := ⟨Try.underlying21⟩
-- 22: []api.Service
theorem inf_22 : (Try.prog.info? 22).map (fun i => (i.zero, i.size, i.bytes)) = some (some (.slice none 0 0), 1, 24) := by kernel_rfl
instance : Siz Try.prog 22 1 := siz_of inf_22
instance : Byt Try.prog 22 24 := byt_of inf_22
instance : Zer Try.prog 22 (.slice none 0 0) := zer_of inf_22
instance : Sca Try.prog 22 := ⟨_, Try.underlying22, rfl⟩
instance : Sli Try.prog 22 100 := ⟨Try.underlying22⟩
-- 23: []string
theorem inf_23 : (Try.prog.info? 23).map (fun i => (i.zero, i.size, i.bytes)) = some (some (.slice none 0 0), 1, 24) := by kernel_rfl
instance : Siz Try.prog 23 1 := siz_of inf_23
instance : Byt Try.prog 23 24 := byt_of inf_23
instance : Zer Try.prog 23 (.slice none 0 0) := zer_of inf_23
instance : Sca Try.prog 23 := ⟨_, Try.underlying23, rfl⟩
instance : Sli Try.prog 23 9 := ⟨Try.underlying23⟩
-- 24: struct { Service int; Type string; Keys []string; Fields []string }
theorem inf_24 : (Try.prog.info? 24).map (fun i => (i.zero, i.size, i.bytes)) = some (some (.agg #[(.int .i64 0), (.string ⟨#[]⟩), (.slice none 0 0), (.slice none 0 0)]), 4, 72) := by kernel_rfl
instance : Siz Try.prog 24 4 := siz_of inf_24
instance : Byt Try.prog 24 72 := byt_of inf_24
instance : Zer Try.prog 24 (.agg #[(.int .i64 0), (.string ⟨#[]⟩), (.slice none 0 0), (.slice none 0 0)]) := zer_of inf_24
instance : Stc Try.prog 24 := ⟨_, Try.underlying24⟩
instance : Fo Try.prog 24 0 0 3 := ⟨_, _, Try.underlying24, rfl, rfl, rfl, by kernel_rfl, by kernel_rfl⟩
instance : Fo Try.prog 24 1 1 9 := ⟨_, _, Try.underlying24, rfl, rfl, rfl, by kernel_rfl, by kernel_rfl⟩
instance : Fo Try.prog 24 2 2 23 := ⟨_, _, Try.underlying24, rfl, rfl, rfl, by kernel_rfl, by kernel_rfl⟩
instance : Fo Try.prog 24 3 3 23 := ⟨_, _, Try.underlying24, rfl, rfl, rfl, by kernel_rfl, by kernel_rfl⟩
-- 25: api.Request
theorem inf_25 : (Try.prog.info? 25).map (fun i => (i.zero, i.size, i.bytes)) = some (some (.agg #[(.int .i64 0), (.string ⟨#[]⟩), (.slice none 0 0), (.slice none 0 0)]), 4, 72) := by kernel_rfl
instance : Siz Try.prog 25 4 := siz_of inf_25
instance : Byt Try.prog 25 72 := byt_of inf_25
instance : Zer Try.prog 25 (.agg #[(.int .i64 0), (.string ⟨#[]⟩), (.slice none 0 0), (.slice none 0 0)]) := zer_of inf_25
instance : Stc Try.prog 25 := ⟨_, Try.underlying25⟩
instance : Fo Try.prog 25 0 0 3 := ⟨_, _, Try.underlying25, rfl, rfl, rfl, by kernel_rfl, by kernel_rfl⟩
instance : Fo Try.prog 25 1 1 9 := ⟨_, _, Try.underlying25, rfl, rfl, rfl, by kernel_rfl, by kernel_rfl⟩
instance : Fo Try.prog 25 2 2 23 := ⟨_, _, Try.underlying25, rfl, rfl, rfl, by kernel_rfl, by kernel_rfl⟩
instance : Fo Try.prog 25 3 3 23 := ⟨_, _, Try.underlying25, rfl, rfl, rfl, by kernel_rfl, by kernel_rfl⟩
-- 26: []bool
theorem inf_26 : (Try.prog.info? 26).map (fun i => (i.zero, i.size, i.bytes)) = some (some (.slice none 0 0), 1, 24) := by kernel_rfl
instance : Siz Try.prog 26 1 := siz_of inf_26
instance : Byt Try.prog 26 24 := byt_of inf_26
instance : Zer Try.prog 26 (.slice none 0 0) := zer_of inf_26
instance : Sca Try.prog 26 := ⟨_, Try.underlying26, rfl⟩
instance : Sli Try.prog 26 4 := ⟨Try.underlying26⟩
-- 27: [][]api.Val
theorem inf_27 : (Try.prog.info? 27).map (fun i => (i.zero, i.size, i.bytes)) = some (some (.slice none 0 0), 1, 24) := by kernel_rfl
instance : Siz Try.prog 27 1 := siz_of inf_27
instance : Byt Try.prog 27 24 := byt_of inf_27
instance : Zer Try.prog 27 (.slice none 0 0) := zer_of inf_27
instance : Sca Try.prog 27 := ⟨_, Try.underlying27, rfl⟩
instance : Sli Try.prog 27 101 := ⟨Try.underlying27⟩
-- 28: struct { Found []bool; Vals [][]api.Val }
theorem inf_28 : (Try.prog.info? 28).map (fun i => (i.zero, i.size, i.bytes)) = some (some (.agg #[(.slice none 0 0), (.slice none 0 0)]), 2, 48) := by kernel_rfl
instance : Siz Try.prog 28 2 := siz_of inf_28
instance : Byt Try.prog 28 48 := byt_of inf_28
instance : Zer Try.prog 28 (.agg #[(.slice none 0 0), (.slice none 0 0)]) := zer_of inf_28
instance : Stc Try.prog 28 := ⟨_, Try.underlying28⟩
instance : Fo Try.prog 28 0 0 26 := ⟨_, _, Try.underlying28, rfl, rfl, rfl, by kernel_rfl, by kernel_rfl⟩
instance : Fo Try.prog 28 1 1 27 := ⟨_, _, Try.underlying28, rfl, rfl, rfl, by kernel_rfl, by kernel_rfl⟩
-- 29: api.Reply
theorem inf_29 : (Try.prog.info? 29).map (fun i => (i.zero, i.size, i.bytes)) = some (some (.agg #[(.slice none 0 0), (.slice none 0 0)]), 2, 48) := by kernel_rfl
instance : Siz Try.prog 29 2 := siz_of inf_29
instance : Byt Try.prog 29 48 := byt_of inf_29
instance : Zer Try.prog 29 (.agg #[(.slice none 0 0), (.slice none 0 0)]) := zer_of inf_29
instance : Stc Try.prog 29 := ⟨_, Try.underlying29⟩
instance : Fo Try.prog 29 0 0 26 := ⟨_, _, Try.underlying29, rfl, rfl, rfl, by kernel_rfl, by kernel_rfl⟩
instance : Fo Try.prog 29 1 1 27 := ⟨_, _, Try.underlying29, rfl, rfl, rfl, by kernel_rfl, by kernel_rfl⟩
-- 30: api.Errno
theorem inf_30 : (Try.prog.info? 30).map (fun i => (i.zero, i.size, i.bytes)) = some (some (.int .i64 0), 1, 8) := by kernel_rfl
instance : Siz Try.prog 30 1 := siz_of inf_30
instance : Byt Try.prog 30 8 := byt_of inf_30
instance : Zer Try.prog 30 (.int .i64 0) := zer_of inf_30
instance : Sca Try.prog 30 := ⟨_, Try.underlying30, rfl⟩
instance : IsInt Try.prog 30 .i64 := ⟨Try.underlying30⟩
-- 32: func([]api.Service, api.Request) (api.Reply, api.Errno)
theorem inf_32 : (Try.prog.info? 32).map (fun i => (i.zero, i.size, i.bytes)) = some (some (.nilFunc), 1, 8) := by kernel_rfl
instance : Siz Try.prog 32 1 := siz_of inf_32
instance : Byt Try.prog 32 8 := byt_of inf_32
instance : Zer Try.prog 32 (.nilFunc) := zer_of inf_32
instance : Sca Try.prog 32 := ⟨_, Try.underlying32, rfl⟩
-- 33: func([]api.Service, api.Request) api.Errno
theorem inf_33 : (Try.prog.info? 33).map (fun i => (i.zero, i.size, i.bytes)) = some (some (.nilFunc), 1, 8) := by kernel_rfl
instance : Siz Try.prog 33 1 := siz_of inf_33
instance : Byt Try.prog 33 8 := byt_of inf_33
instance : Zer Try.prog 33 (.nilFunc) := zer_of inf_33
instance : Sca Try.prog 33 := ⟨_, Try.underlying33, rfl⟩
-- 34: func(api.Reply, api.Reply) bool
theorem inf_34 : (Try.prog.info? 34).map (fun i => (i.zero, i.size, i.bytes)) = some (some (.nilFunc), 1, 8) := by kernel_rfl
instance : Siz Try.prog 34 1 := siz_of inf_34
instance : Byt Try.prog 34 8 := byt_of inf_34
instance : Zer Try.prog 34 (.nilFunc) := zer_of inf_34
instance : Sca Try.prog 34 := ⟨_, Try.underlying34, rfl⟩
-- 35: func([]api.Service, api.Request) bool
theorem inf_35 : (Try.prog.info? 35).map (fun i => (i.zero, i.size, i.bytes)) = some (some (.nilFunc), 1, 8) := by kernel_rfl
instance : Siz Try.prog 35 1 := siz_of inf_35
instance : Byt Try.prog 35 8 := byt_of inf_35
instance : Zer Try.prog 35 (.nilFunc) := zer_of inf_35
instance : Sca Try.prog 35 := ⟨_, Try.underlying35, rfl⟩
-- 36: func() bool
theorem inf_36 : (Try.prog.info? 36).map (fun i => (i.zero, i.size, i.bytes)) = some (some (.nilFunc), 1, 8) := by kernel_rfl
instance : Siz Try.prog 36 1 := siz_of inf_36
instance : Byt Try.prog 36 8 := byt_of inf_36
instance : Zer Try.prog 36 (.nilFunc) := zer_of inf_36
instance : Sca Try.prog 36 := ⟨_, Try.underlying36, rfl⟩
-- 37: func([]api.Service, api.Request, int) bool
theorem inf_37 : (Try.prog.info? 37).map (fun i => (i.zero, i.size, i.bytes)) = some (some (.nilFunc), 1, 8) := by kernel_rfl
instance : Siz Try.prog 37 1 := siz_of inf_37
instance : Byt Try.prog 37 8 := byt_of inf_37
instance : Zer Try.prog 37 (.nilFunc) := zer_of inf_37
instance : Sca Try.prog 37 := ⟨_, Try.underlying37, rfl⟩
-- 38: []api.Part
theorem inf_38 : (Try.prog.info? 38).map (fun i => (i.zero, i.size, i.bytes)) = some (some (.slice none 0 0), 1, 24) := by kernel_rfl
instance : Siz Try.prog 38 1 := siz_of inf_38
instance : Byt Try.prog 38 24 := byt_of inf_38
instance : Zer Try.prog 38 (.slice none 0 0) := zer_of inf_38
instance : Sca Try.prog 38 := ⟨_, Try.underlying38, rfl⟩
instance : Sli Try.prog 38 163 := ⟨Try.underlying38⟩
-- 39: []api.Pick
theorem inf_39 : (Try.prog.info? 39).map (fun i => (i.zero, i.size, i.bytes)) = some (some (.slice none 0 0), 1, 24) := by kernel_rfl
instance : Siz Try.prog 39 1 := siz_of inf_39
instance : Byt Try.prog 39 24 := byt_of inf_39
instance : Zer Try.prog 39 (.slice none 0 0) := zer_of inf_39
instance : Sca Try.prog 39 := ⟨_, Try.underlying39, rfl⟩
instance : Sli Try.prog 39 93 := ⟨Try.underlying39⟩
-- 40: struct { Type string; Key string; Picks []api.Pick }
theorem inf_40 : (Try.prog.info? 40).map (fun i => (i.zero, i.size, i.bytes)) = some (some (.agg #[(.string ⟨#[]⟩), (.string ⟨#[]⟩), (.slice none 0 0)]), 3, 56) := by kernel_rfl
instance : Siz Try.prog 40 3 := siz_of inf_40
instance : Byt Try.prog 40 56 := byt_of inf_40
instance : Zer Try.prog 40 (.agg #[(.string ⟨#[]⟩), (.string ⟨#[]⟩), (.slice none 0 0)]) := zer_of inf_40
instance : Stc Try.prog 40 := ⟨_, Try.underlying40⟩
instance : Fo Try.prog 40 0 0 9 := ⟨_, _, Try.underlying40, rfl, rfl, rfl, by kernel_rfl, by kernel_rfl⟩
instance : Fo Try.prog 40 1 1 9 := ⟨_, _, Try.underlying40, rfl, rfl, rfl, by kernel_rfl, by kernel_rfl⟩
instance : Fo Try.prog 40 2 2 39 := ⟨_, _, Try.underlying40, rfl, rfl, rfl, by kernel_rfl, by kernel_rfl⟩
-- 41: api.Ask
theorem inf_41 : (Try.prog.info? 41).map (fun i => (i.zero, i.size, i.bytes)) = some (some (.agg #[(.string ⟨#[]⟩), (.string ⟨#[]⟩), (.slice none 0 0)]), 3, 56) := by kernel_rfl
instance : Siz Try.prog 41 3 := siz_of inf_41
instance : Byt Try.prog 41 56 := byt_of inf_41
instance : Zer Try.prog 41 (.agg #[(.string ⟨#[]⟩), (.string ⟨#[]⟩), (.slice none 0 0)]) := zer_of inf_41
instance : Stc Try.prog 41 := ⟨_, Try.underlying41⟩
instance : Fo Try.prog 41 0 0 9 := ⟨_, _, Try.underlying41, rfl, rfl, rfl, by kernel_rfl, by kernel_rfl⟩
instance : Fo Try.prog 41 1 1 9 := ⟨_, _, Try.underlying41, rfl, rfl, rfl, by kernel_rfl, by kernel_rfl⟩
instance : Fo Try.prog 41 2 2 39 := ⟨_, _, Try.underlying41, rfl, rfl, rfl, by kernel_rfl, by kernel_rfl⟩
-- 42: func([]api.Part, api.Ask) api.Errno
theorem inf_42 : (Try.prog.info? 42).map (fun i => (i.zero, i.size, i.bytes)) = some (some (.nilFunc), 1, 8) := by kernel_rfl
instance : Siz Try.prog 42 1 := siz_of inf_42
instance : Byt Try.prog 42 8 := byt_of inf_42
instance : Zer Try.prog 42 (.nilFunc) := zer_of inf_42
instance : Sca Try.prog 42 := ⟨_, Try.underlying42, rfl⟩
-- 43: func([]api.Part, api.Ask) bool
theorem inf_43 : (Try.prog.info? 43).map (fun i => (i.zero, i.size, i.bytes)) = some (some (.nilFunc), 1, 8) := by kernel_rfl
instance : Siz Try.prog 43 1 := siz_of inf_43
instance : Byt Try.prog 43 8 := byt_of inf_43
instance : Zer Try.prog 43 (.nilFunc) := zer_of inf_43
instance : Sca Try.prog 43 := ⟨_, Try.underlying43, rfl⟩
-- 44: []api.Type
theorem inf_44 : (Try.prog.info? 44).map (fun i => (i.zero, i.size, i.bytes)) = some (some (.slice none 0 0), 1, 24) := by kernel_rfl
instance : Siz Try.prog 44 1 := siz_of inf_44
instance : Byt Try.prog 44 24 := byt_of inf_44
instance : Zer Try.prog 44 (.slice none 0 0) := zer_of inf_44
instance : Sca Try.prog 44 := ⟨_, Try.underlying44, rfl⟩
instance : Sli Try.prog 44 55 := ⟨Try.underlying44⟩
-- 45: []api.Thing
theorem inf_45 : (Try.prog.info? 45).map (fun i => (i.zero, i.size, i.bytes)) = some (some (.slice none 0 0), 1, 24) := by kernel_rfl
instance : Siz Try.prog 45 1 := siz_of inf_45
instance : Byt Try.prog 45 24 := byt_of inf_45
instance : Zer Try.prog 45 (.slice none 0 0) := zer_of inf_45
instance : Sca Try.prog 45 := ⟨_, Try.underlying45, rfl⟩
instance : Sli Try.prog 45 103 := ⟨Try.underlying45⟩
-- 46: func(string) bool
theorem inf_46 : (Try.prog.info? 46).map (fun i => (i.zero, i.size, i.bytes)) = some (some (.nilFunc), 1, 8) := by kernel_rfl
instance : Siz Try.prog 46 1 := siz_of inf_46
instance : Byt Try.prog 46 8 := byt_of inf_46
instance : Zer Try.prog 46 (.nilFunc) := zer_of inf_46
instance : Sca Try.prog 46 := ⟨_, Try.underlying46, rfl⟩
-- 47: func([]api.Type, string) int
theorem inf_47 : (Try.prog.info? 47).map (fun i => (i.zero, i.size, i.bytes)) = some (some (.nilFunc), 1, 8) := by kernel_rfl
instance : Siz Try.prog 47 1 := siz_of inf_47
instance : Byt Try.prog 47 8 := byt_of inf_47
instance : Zer Try.prog 47 (.nilFunc) := zer_of inf_47
instance : Sca Try.prog 47 := ⟨_, Try.underlying47, rfl⟩
-- 48: *api.Type
theorem inf_48 : (Try.prog.info? 48).map (fun i => (i.zero, i.size, i.bytes)) = some (some (.pointer none), 1, 8) := by kernel_rfl
instance : Siz Try.prog 48 1 := siz_of inf_48
instance : Byt Try.prog 48 8 := byt_of inf_48
instance : Zer Try.prog 48 (.pointer none) := zer_of inf_48
instance : Sca Try.prog 48 := ⟨_, Try.underlying48, rfl⟩
instance : IsPtr Try.prog 48 55 := ⟨Try.underlying48⟩
-- 49: func([]api.Type, string) *api.Type
theorem inf_49 : (Try.prog.info? 49).map (fun i => (i.zero, i.size, i.bytes)) = some (some (.nilFunc), 1, 8) := by kernel_rfl
instance : Siz Try.prog 49 1 := siz_of inf_49
instance : Byt Try.prog 49 8 := byt_of inf_49
instance : Zer Try.prog 49 (.nilFunc) := zer_of inf_49
instance : Sca Try.prog 49 := ⟨_, Try.underlying49, rfl⟩
-- 50: struct { Err api.Errno; At int }
theorem inf_50 : (Try.prog.info? 50).map (fun i => (i.zero, i.size, i.bytes)) = some (some (.agg #[(.int .i64 0), (.int .i64 0)]), 2, 16) := by kernel_rfl
instance : Siz Try.prog 50 2 := siz_of inf_50
instance : Byt Try.prog 50 16 := byt_of inf_50
instance : Zer Try.prog 50 (.agg #[(.int .i64 0), (.int .i64 0)]) := zer_of inf_50
instance : Stc Try.prog 50 := ⟨_, Try.underlying50⟩
instance : Fo Try.prog 50 0 0 30 := ⟨_, _, Try.underlying50, rfl, rfl, rfl, by kernel_rfl, by kernel_rfl⟩
instance : Fo Try.prog 50 1 1 3 := ⟨_, _, Try.underlying50, rfl, rfl, rfl, by kernel_rfl, by kernel_rfl⟩
-- 51: api.Fault
theorem inf_51 : (Try.prog.info? 51).map (fun i => (i.zero, i.size, i.bytes)) = some (some (.agg #[(.int .i64 0), (.int .i64 0)]), 2, 16) := by kernel_rfl
instance : Siz Try.prog 51 2 := siz_of inf_51
instance : Byt Try.prog 51 16 := byt_of inf_51
instance : Zer Try.prog 51 (.agg #[(.int .i64 0), (.int .i64 0)]) := zer_of inf_51
instance : Stc Try.prog 51 := ⟨_, Try.underlying51⟩
instance : Fo Try.prog 51 0 0 30 := ⟨_, _, Try.underlying51, rfl, rfl, rfl, by kernel_rfl, by kernel_rfl⟩
instance : Fo Try.prog 51 1 1 3 := ⟨_, _, Try.underlying51, rfl, rfl, rfl, by kernel_rfl, by kernel_rfl⟩
-- 52: func([]api.Type) api.Fault
theorem inf_52 : (Try.prog.info? 52).map (fun i => (i.zero, i.size, i.bytes)) = some (some (.nilFunc), 1, 8) := by kernel_rfl
instance : Siz Try.prog 52 1 := siz_of inf_52
instance : Byt Try.prog 52 8 := byt_of inf_52
instance : Zer Try.prog 52 (.nilFunc) := zer_of inf_52
instance : Sca Try.prog 52 := ⟨_, Try.underlying52, rfl⟩
-- 53: []api.Field
theorem inf_53 : (Try.prog.info? 53).map (fun i => (i.zero, i.size, i.bytes)) = some (some (.slice none 0 0), 1, 24) := by kernel_rfl
instance : Siz Try.prog 53 1 := siz_of inf_53
instance : Byt Try.prog 53 24 := byt_of inf_53
instance : Zer Try.prog 53 (.slice none 0 0) := zer_of inf_53
instance : Sca Try.prog 53 := ⟨_, Try.underlying53, rfl⟩
instance : Sli Try.prog 53 118 := ⟨Try.underlying53⟩
-- 54: struct { Name string; Fields []api.Field }
theorem inf_54 : (Try.prog.info? 54).map (fun i => (i.zero, i.size, i.bytes)) = some (some (.agg #[(.string ⟨#[]⟩), (.slice none 0 0)]), 2, 40) := by kernel_rfl
instance : Siz Try.prog 54 2 := siz_of inf_54
instance : Byt Try.prog 54 40 := byt_of inf_54
instance : Zer Try.prog 54 (.agg #[(.string ⟨#[]⟩), (.slice none 0 0)]) := zer_of inf_54
instance : Stc Try.prog 54 := ⟨_, Try.underlying54⟩
instance : Fo Try.prog 54 0 0 9 := ⟨_, _, Try.underlying54, rfl, rfl, rfl, by kernel_rfl, by kernel_rfl⟩
instance : Fo Try.prog 54 1 1 53 := ⟨_, _, Try.underlying54, rfl, rfl, rfl, by kernel_rfl, by kernel_rfl⟩
-- 55: api.Type
theorem inf_55 : (Try.prog.info? 55).map (fun i => (i.zero, i.size, i.bytes)) = some (some (.agg #[(.string ⟨#[]⟩), (.slice none 0 0)]), 2, 40) := by kernel_rfl
instance : Siz Try.prog 55 2 := siz_of inf_55
instance : Byt Try.prog 55 40 := byt_of inf_55
instance : Zer Try.prog 55 (.agg #[(.string ⟨#[]⟩), (.slice none 0 0)]) := zer_of inf_55
instance : Stc Try.prog 55 := ⟨_, Try.underlying55⟩
instance : Fo Try.prog 55 0 0 9 := ⟨_, _, Try.underlying55, rfl, rfl, rfl, by kernel_rfl, by kernel_rfl⟩
instance : Fo Try.prog 55 1 1 53 := ⟨_, _, Try.underlying55, rfl, rfl, rfl, by kernel_rfl, by kernel_rfl⟩
-- 56: func([]api.Field, string) int
theorem inf_56 : (Try.prog.info? 56).map (fun i => (i.zero, i.size, i.bytes)) = some (some (.nilFunc), 1, 8) := by kernel_rfl
instance : Siz Try.prog 56 1 := siz_of inf_56
instance : Byt Try.prog 56 8 := byt_of inf_56
instance : Zer Try.prog 56 (.nilFunc) := zer_of inf_56
instance : Sca Try.prog 56 := ⟨_, Try.underlying56, rfl⟩
-- 57: func([]api.Type, []api.Thing) api.Fault
theorem inf_57 : (Try.prog.info? 57).map (fun i => (i.zero, i.size, i.bytes)) = some (some (.nilFunc), 1, 8) := by kernel_rfl
instance : Siz Try.prog 57 1 := siz_of inf_57
instance : Byt Try.prog 57 8 := byt_of inf_57
instance : Zer Try.prog 57 (.nilFunc) := zer_of inf_57
instance : Sca Try.prog 57 := ⟨_, Try.underlying57, rfl⟩
-- 58: func([]api.Type, []api.Thing, string) bool
theorem inf_58 : (Try.prog.info? 58).map (fun i => (i.zero, i.size, i.bytes)) = some (some (.nilFunc), 1, 8) := by kernel_rfl
instance : Siz Try.prog 58 1 := siz_of inf_58
instance : Byt Try.prog 58 8 := byt_of inf_58
instance : Zer Try.prog 58 (.nilFunc) := zer_of inf_58
instance : Sca Try.prog 58 := ⟨_, Try.underlying58, rfl⟩
-- 59: func([]api.Type, []api.Thing, int) bool
theorem inf_59 : (Try.prog.info? 59).map (fun i => (i.zero, i.size, i.bytes)) = some (some (.nilFunc), 1, 8) := by kernel_rfl
instance : Siz Try.prog 59 1 := siz_of inf_59
instance : Byt Try.prog 59 8 := byt_of inf_59
instance : Zer Try.prog 59 (.nilFunc) := zer_of inf_59
instance : Sca Try.prog 59 := ⟨_, Try.underlying59, rfl⟩
-- 60: []api.Change
theorem inf_60 : (Try.prog.info? 60).map (fun i => (i.zero, i.size, i.bytes)) = some (some (.slice none 0 0), 1, 24) := by kernel_rfl
instance : Siz Try.prog 60 1 := siz_of inf_60
instance : Byt Try.prog 60 24 := byt_of inf_60
instance : Zer Try.prog 60 (.slice none 0 0) := zer_of inf_60
instance : Sca Try.prog 60 := ⟨_, Try.underlying60, rfl⟩
instance : Sli Try.prog 60 82 := ⟨Try.underlying60⟩
-- 61: []api.Seen
theorem inf_61 : (Try.prog.info? 61).map (fun i => (i.zero, i.size, i.bytes)) = some (some (.slice none 0 0), 1, 24) := by kernel_rfl
instance : Siz Try.prog 61 1 := siz_of inf_61
instance : Byt Try.prog 61 24 := byt_of inf_61
instance : Zer Try.prog 61 (.slice none 0 0) := zer_of inf_61
instance : Sca Try.prog 61 := ⟨_, Try.underlying61, rfl⟩
instance : Sli Try.prog 61 74 := ⟨Try.underlying61⟩
-- 63: func([]api.Type, []api.Change) ([]api.Seen, api.Fault)
theorem inf_63 : (Try.prog.info? 63).map (fun i => (i.zero, i.size, i.bytes)) = some (some (.nilFunc), 1, 8) := by kernel_rfl
instance : Siz Try.prog 63 1 := siz_of inf_63
instance : Byt Try.prog 63 8 := byt_of inf_63
instance : Zer Try.prog 63 (.nilFunc) := zer_of inf_63
instance : Sca Try.prog 63 := ⟨_, Try.underlying63, rfl⟩
-- 64: [][]string
theorem inf_64 : (Try.prog.info? 64).map (fun i => (i.zero, i.size, i.bytes)) = some (some (.slice none 0 0), 1, 24) := by kernel_rfl
instance : Siz Try.prog 64 1 := siz_of inf_64
instance : Byt Try.prog 64 24 := byt_of inf_64
instance : Zer Try.prog 64 (.slice none 0 0) := zer_of inf_64
instance : Sca Try.prog 64 := ⟨_, Try.underlying64, rfl⟩
instance : Sli Try.prog 64 23 := ⟨Try.underlying64⟩
-- 65: struct { Own []string; Called []string; Fields [][]string }
theorem inf_65 : (Try.prog.info? 65).map (fun i => (i.zero, i.size, i.bytes)) = some (some (.agg #[(.slice none 0 0), (.slice none 0 0), (.slice none 0 0)]), 3, 72) := by kernel_rfl
instance : Siz Try.prog 65 3 := siz_of inf_65
instance : Byt Try.prog 65 72 := byt_of inf_65
instance : Zer Try.prog 65 (.agg #[(.slice none 0 0), (.slice none 0 0), (.slice none 0 0)]) := zer_of inf_65
instance : Stc Try.prog 65 := ⟨_, Try.underlying65⟩
instance : Fo Try.prog 65 0 0 23 := ⟨_, _, Try.underlying65, rfl, rfl, rfl, by kernel_rfl, by kernel_rfl⟩
instance : Fo Try.prog 65 1 1 23 := ⟨_, _, Try.underlying65, rfl, rfl, rfl, by kernel_rfl, by kernel_rfl⟩
instance : Fo Try.prog 65 2 2 64 := ⟨_, _, Try.underlying65, rfl, rfl, rfl, by kernel_rfl, by kernel_rfl⟩
-- 66: stitchref1.Seen
theorem inf_66 : (Try.prog.info? 66).map (fun i => (i.zero, i.size, i.bytes)) = some (some (.agg #[(.slice none 0 0), (.slice none 0 0), (.slice none 0 0)]), 3, 72) := by kernel_rfl
instance : Siz Try.prog 66 3 := siz_of inf_66
instance : Byt Try.prog 66 72 := byt_of inf_66
instance : Zer Try.prog 66 (.agg #[(.slice none 0 0), (.slice none 0 0), (.slice none 0 0)]) := zer_of inf_66
instance : Stc Try.prog 66 := ⟨_, Try.underlying66⟩
instance : Fo Try.prog 66 0 0 23 := ⟨_, _, Try.underlying66, rfl, rfl, rfl, by kernel_rfl, by kernel_rfl⟩
instance : Fo Try.prog 66 1 1 23 := ⟨_, _, Try.underlying66, rfl, rfl, rfl, by kernel_rfl, by kernel_rfl⟩
instance : Fo Try.prog 66 2 2 64 := ⟨_, _, Try.underlying66, rfl, rfl, rfl, by kernel_rfl, by kernel_rfl⟩
-- 68: func([]api.Type, []api.Change) (stitchref1.Seen, api.Fault)
theorem inf_68 : (Try.prog.info? 68).map (fun i => (i.zero, i.size, i.bytes)) = some (some (.nilFunc), 1, 8) := by kernel_rfl
instance : Siz Try.prog 68 1 := siz_of inf_68
instance : Byt Try.prog 68 8 := byt_of inf_68
instance : Zer Try.prog 68 (.nilFunc) := zer_of inf_68
instance : Sca Try.prog 68 := ⟨_, Try.underlying68, rfl⟩
-- 70: func([]api.Type) ([]api.Type, [][]string)
theorem inf_70 : (Try.prog.info? 70).map (fun i => (i.zero, i.size, i.bytes)) = some (some (.nilFunc), 1, 8) := by kernel_rfl
instance : Siz Try.prog 70 1 := siz_of inf_70
instance : Byt Try.prog 70 8 := byt_of inf_70
instance : Zer Try.prog 70 (.nilFunc) := zer_of inf_70
instance : Sca Try.prog 70 := ⟨_, Try.underlying70, rfl⟩
-- 71: func([]api.Type, []api.Type) bool
theorem inf_71 : (Try.prog.info? 71).map (fun i => (i.zero, i.size, i.bytes)) = some (some (.nilFunc), 1, 8) := by kernel_rfl
instance : Siz Try.prog 71 1 := siz_of inf_71
instance : Byt Try.prog 71 8 := byt_of inf_71
instance : Zer Try.prog 71 (.nilFunc) := zer_of inf_71
instance : Sca Try.prog 71 := ⟨_, Try.underlying71, rfl⟩
-- 72: func([]api.Seen) []api.Type
theorem inf_72 : (Try.prog.info? 72).map (fun i => (i.zero, i.size, i.bytes)) = some (some (.nilFunc), 1, 8) := by kernel_rfl
instance : Siz Try.prog 72 1 := siz_of inf_72
instance : Byt Try.prog 72 8 := byt_of inf_72
instance : Zer Try.prog 72 (.nilFunc) := zer_of inf_72
instance : Sca Try.prog 72 := ⟨_, Try.underlying72, rfl⟩
-- 73: struct { Type api.Type; Own string; Fields []string }
theorem inf_73 : (Try.prog.info? 73).map (fun i => (i.zero, i.size, i.bytes)) = some (some (.agg #[(.string ⟨#[]⟩), (.slice none 0 0), (.string ⟨#[]⟩), (.slice none 0 0)]), 4, 80) := by kernel_rfl
instance : Siz Try.prog 73 4 := siz_of inf_73
instance : Byt Try.prog 73 80 := byt_of inf_73
instance : Zer Try.prog 73 (.agg #[(.string ⟨#[]⟩), (.slice none 0 0), (.string ⟨#[]⟩), (.slice none 0 0)]) := zer_of inf_73
instance : Stc Try.prog 73 := ⟨_, Try.underlying73⟩
instance : Fo Try.prog 73 0 0 55 := ⟨_, _, Try.underlying73, rfl, rfl, rfl, by kernel_rfl, by kernel_rfl⟩
instance : Fo Try.prog 73 1 2 9 := ⟨_, _, Try.underlying73, rfl, rfl, rfl, by kernel_rfl, by kernel_rfl⟩
instance : Fo Try.prog 73 2 3 23 := ⟨_, _, Try.underlying73, rfl, rfl, rfl, by kernel_rfl, by kernel_rfl⟩
-- 74: api.Seen
theorem inf_74 : (Try.prog.info? 74).map (fun i => (i.zero, i.size, i.bytes)) = some (some (.agg #[(.string ⟨#[]⟩), (.slice none 0 0), (.string ⟨#[]⟩), (.slice none 0 0)]), 4, 80) := by kernel_rfl
instance : Siz Try.prog 74 4 := siz_of inf_74
instance : Byt Try.prog 74 80 := byt_of inf_74
instance : Zer Try.prog 74 (.agg #[(.string ⟨#[]⟩), (.slice none 0 0), (.string ⟨#[]⟩), (.slice none 0 0)]) := zer_of inf_74
instance : Stc Try.prog 74 := ⟨_, Try.underlying74⟩
instance : Fo Try.prog 74 0 0 55 := ⟨_, _, Try.underlying74, rfl, rfl, rfl, by kernel_rfl, by kernel_rfl⟩
instance : Fo Try.prog 74 1 2 9 := ⟨_, _, Try.underlying74, rfl, rfl, rfl, by kernel_rfl, by kernel_rfl⟩
instance : Fo Try.prog 74 2 3 23 := ⟨_, _, Try.underlying74, rfl, rfl, rfl, by kernel_rfl, by kernel_rfl⟩
-- 75: func([]string, []string) bool
theorem inf_75 : (Try.prog.info? 75).map (fun i => (i.zero, i.size, i.bytes)) = some (some (.nilFunc), 1, 8) := by kernel_rfl
instance : Siz Try.prog 75 1 := siz_of inf_75
instance : Byt Try.prog 75 8 := byt_of inf_75
instance : Zer Try.prog 75 (.nilFunc) := zer_of inf_75
instance : Sca Try.prog 75 := ⟨_, Try.underlying75, rfl⟩
-- 76: func(api.Type, api.Type) bool
theorem inf_76 : (Try.prog.info? 76).map (fun i => (i.zero, i.size, i.bytes)) = some (some (.nilFunc), 1, 8) := by kernel_rfl
instance : Siz Try.prog 76 1 := siz_of inf_76
instance : Byt Try.prog 76 8 := byt_of inf_76
instance : Zer Try.prog 76 (.nilFunc) := zer_of inf_76
instance : Sca Try.prog 76 := ⟨_, Try.underlying76, rfl⟩
-- 77: func([]api.Type, []api.Change) bool
theorem inf_77 : (Try.prog.info? 77).map (fun i => (i.zero, i.size, i.bytes)) = some (some (.nilFunc), 1, 8) := by kernel_rfl
instance : Siz Try.prog 77 1 := siz_of inf_77
instance : Byt Try.prog 77 8 := byt_of inf_77
instance : Zer Try.prog 77 (.nilFunc) := zer_of inf_77
instance : Sca Try.prog 77 := ⟨_, Try.underlying77, rfl⟩
-- 78: []api.Errno
theorem inf_78 : (Try.prog.info? 78).map (fun i => (i.zero, i.size, i.bytes)) = some (some (.slice none 0 0), 1, 24) := by kernel_rfl
instance : Siz Try.prog 78 1 := siz_of inf_78
instance : Byt Try.prog 78 24 := byt_of inf_78
instance : Zer Try.prog 78 (.slice none 0 0) := zer_of inf_78
instance : Sca Try.prog 78 := ⟨_, Try.underlying78, rfl⟩
instance : Sli Try.prog 78 30 := ⟨Try.underlying78⟩
-- 79: []int
theorem inf_79 : (Try.prog.info? 79).map (fun i => (i.zero, i.size, i.bytes)) = some (some (.slice none 0 0), 1, 24) := by kernel_rfl
instance : Siz Try.prog 79 1 := siz_of inf_79
instance : Byt Try.prog 79 24 := byt_of inf_79
instance : Zer Try.prog 79 (.slice none 0 0) := zer_of inf_79
instance : Sca Try.prog 79 := ⟨_, Try.underlying79, rfl⟩
instance : Sli Try.prog 79 3 := ⟨Try.underlying79⟩
-- 80: func([]api.Type, []api.Change, int) bool
theorem inf_80 : (Try.prog.info? 80).map (fun i => (i.zero, i.size, i.bytes)) = some (some (.nilFunc), 1, 8) := by kernel_rfl
instance : Siz Try.prog 80 1 := siz_of inf_80
instance : Byt Try.prog 80 8 := byt_of inf_80
instance : Zer Try.prog 80 (.nilFunc) := zer_of inf_80
instance : Sca Try.prog 80 := ⟨_, Try.underlying80, rfl⟩
-- 81: struct { Kind int; Type string; Field string; To string }
theorem inf_81 : (Try.prog.info? 81).map (fun i => (i.zero, i.size, i.bytes)) = some (some (.agg #[(.int .i64 0), (.string ⟨#[]⟩), (.string ⟨#[]⟩), (.string ⟨#[]⟩)]), 4, 56) := by kernel_rfl
instance : Siz Try.prog 81 4 := siz_of inf_81
instance : Byt Try.prog 81 56 := byt_of inf_81
instance : Zer Try.prog 81 (.agg #[(.int .i64 0), (.string ⟨#[]⟩), (.string ⟨#[]⟩), (.string ⟨#[]⟩)]) := zer_of inf_81
instance : Stc Try.prog 81 := ⟨_, Try.underlying81⟩
instance : Fo Try.prog 81 0 0 3 := ⟨_, _, Try.underlying81, rfl, rfl, rfl, by kernel_rfl, by kernel_rfl⟩
instance : Fo Try.prog 81 1 1 9 := ⟨_, _, Try.underlying81, rfl, rfl, rfl, by kernel_rfl, by kernel_rfl⟩
instance : Fo Try.prog 81 2 2 9 := ⟨_, _, Try.underlying81, rfl, rfl, rfl, by kernel_rfl, by kernel_rfl⟩
instance : Fo Try.prog 81 3 3 9 := ⟨_, _, Try.underlying81, rfl, rfl, rfl, by kernel_rfl, by kernel_rfl⟩
-- 82: api.Change
theorem inf_82 : (Try.prog.info? 82).map (fun i => (i.zero, i.size, i.bytes)) = some (some (.agg #[(.int .i64 0), (.string ⟨#[]⟩), (.string ⟨#[]⟩), (.string ⟨#[]⟩)]), 4, 56) := by kernel_rfl
instance : Siz Try.prog 82 4 := siz_of inf_82
instance : Byt Try.prog 82 56 := byt_of inf_82
instance : Zer Try.prog 82 (.agg #[(.int .i64 0), (.string ⟨#[]⟩), (.string ⟨#[]⟩), (.string ⟨#[]⟩)]) := zer_of inf_82
instance : Stc Try.prog 82 := ⟨_, Try.underlying82⟩
instance : Fo Try.prog 82 0 0 3 := ⟨_, _, Try.underlying82, rfl, rfl, rfl, by kernel_rfl, by kernel_rfl⟩
instance : Fo Try.prog 82 1 1 9 := ⟨_, _, Try.underlying82, rfl, rfl, rfl, by kernel_rfl, by kernel_rfl⟩
instance : Fo Try.prog 82 2 2 9 := ⟨_, _, Try.underlying82, rfl, rfl, rfl, by kernel_rfl, by kernel_rfl⟩
instance : Fo Try.prog 82 3 3 9 := ⟨_, _, Try.underlying82, rfl, rfl, rfl, by kernel_rfl, by kernel_rfl⟩
-- 83: [2]api.Change
theorem inf_83 : (Try.prog.info? 83).map (fun i => (i.zero, i.size, i.bytes)) = some (some (.agg #[(.int .i64 0), (.string ⟨#[]⟩), (.string ⟨#[]⟩), (.string ⟨#[]⟩), (.int .i64 0), (.string ⟨#[]⟩), (.string ⟨#[]⟩), (.string ⟨#[]⟩)]), 8, 112) := by kernel_rfl
instance : Siz Try.prog 83 8 := siz_of inf_83
instance : Byt Try.prog 83 112 := byt_of inf_83
instance : Zer Try.prog 83 (.agg #[(.int .i64 0), (.string ⟨#[]⟩), (.string ⟨#[]⟩), (.string ⟨#[]⟩), (.int .i64 0), (.string ⟨#[]⟩), (.string ⟨#[]⟩), (.string ⟨#[]⟩)]) := zer_of inf_83
-- 84: [][2]api.Change
theorem inf_84 : (Try.prog.info? 84).map (fun i => (i.zero, i.size, i.bytes)) = some (some (.slice none 0 0), 1, 24) := by kernel_rfl
instance : Siz Try.prog 84 1 := siz_of inf_84
instance : Byt Try.prog 84 24 := byt_of inf_84
instance : Zer Try.prog 84 (.slice none 0 0) := zer_of inf_84
instance : Sca Try.prog 84 := ⟨_, Try.underlying84, rfl⟩
instance : Sli Try.prog 84 83 := ⟨Try.underlying84⟩
-- 85: func([]api.Type, []api.Change, string, string, string) bool
theorem inf_85 : (Try.prog.info? 85).map (fun i => (i.zero, i.size, i.bytes)) = some (some (.nilFunc), 1, 8) := by kernel_rfl
instance : Siz Try.prog 85 1 := siz_of inf_85
instance : Byt Try.prog 85 8 := byt_of inf_85
instance : Zer Try.prog 85 (.nilFunc) := zer_of inf_85
instance : Sca Try.prog 85 := ⟨_, Try.underlying85, rfl⟩
-- 87: func(string) (api.Ask, api.Fault)
theorem inf_87 : (Try.prog.info? 87).map (fun i => (i.zero, i.size, i.bytes)) = some (some (.nilFunc), 1, 8) := by kernel_rfl
instance : Siz Try.prog 87 1 := siz_of inf_87
instance : Byt Try.prog 87 8 := byt_of inf_87
instance : Zer Try.prog 87 (.nilFunc) := zer_of inf_87
instance : Sca Try.prog 87 := ⟨_, Try.underlying87, rfl⟩
-- 88: func(api.Ask, api.Ask) bool
theorem inf_88 : (Try.prog.info? 88).map (fun i => (i.zero, i.size, i.bytes)) = some (some (.nilFunc), 1, 8) := by kernel_rfl
instance : Siz Try.prog 88 1 := siz_of inf_88
instance : Byt Try.prog 88 8 := byt_of inf_88
instance : Zer Try.prog 88 (.nilFunc) := zer_of inf_88
instance : Sca Try.prog 88 := ⟨_, Try.underlying88, rfl⟩
-- 89: func(api.Ask) api.Errno
theorem inf_89 : (Try.prog.info? 89).map (fun i => (i.zero, i.size, i.bytes)) = some (some (.nilFunc), 1, 8) := by kernel_rfl
instance : Siz Try.prog 89 1 := siz_of inf_89
instance : Byt Try.prog 89 8 := byt_of inf_89
instance : Zer Try.prog 89 (.nilFunc) := zer_of inf_89
instance : Sca Try.prog 89 := ⟨_, Try.underlying89, rfl⟩
-- 91: func(api.Ask) (string, api.Errno)
theorem inf_91 : (Try.prog.info? 91).map (fun i => (i.zero, i.size, i.bytes)) = some (some (.nilFunc), 1, 8) := by kernel_rfl
instance : Siz Try.prog 91 1 := siz_of inf_91
instance : Byt Try.prog 91 8 := byt_of inf_91
instance : Zer Try.prog 91 (.nilFunc) := zer_of inf_91
instance : Sca Try.prog 91 := ⟨_, Try.underlying91, rfl⟩
-- 92: struct { As string; Field string; Picks []api.Pick }
theorem inf_92 : (Try.prog.info? 92).map (fun i => (i.zero, i.size, i.bytes)) = some (some (.agg #[(.string ⟨#[]⟩), (.string ⟨#[]⟩), (.slice none 0 0)]), 3, 56) := by kernel_rfl
instance : Siz Try.prog 92 3 := siz_of inf_92
instance : Byt Try.prog 92 56 := byt_of inf_92
instance : Zer Try.prog 92 (.agg #[(.string ⟨#[]⟩), (.string ⟨#[]⟩), (.slice none 0 0)]) := zer_of inf_92
instance : Stc Try.prog 92 := ⟨_, Try.underlying92⟩
instance : Fo Try.prog 92 0 0 9 := ⟨_, _, Try.underlying92, rfl, rfl, rfl, by kernel_rfl, by kernel_rfl⟩
instance : Fo Try.prog 92 1 1 9 := ⟨_, _, Try.underlying92, rfl, rfl, rfl, by kernel_rfl, by kernel_rfl⟩
instance : Fo Try.prog 92 2 2 39 := ⟨_, _, Try.underlying92, rfl, rfl, rfl, by kernel_rfl, by kernel_rfl⟩
-- 93: api.Pick
theorem inf_93 : (Try.prog.info? 93).map (fun i => (i.zero, i.size, i.bytes)) = some (some (.agg #[(.string ⟨#[]⟩), (.string ⟨#[]⟩), (.slice none 0 0)]), 3, 56) := by kernel_rfl
instance : Siz Try.prog 93 3 := siz_of inf_93
instance : Byt Try.prog 93 56 := byt_of inf_93
instance : Zer Try.prog 93 (.agg #[(.string ⟨#[]⟩), (.string ⟨#[]⟩), (.slice none 0 0)]) := zer_of inf_93
instance : Stc Try.prog 93 := ⟨_, Try.underlying93⟩
instance : Fo Try.prog 93 0 0 9 := ⟨_, _, Try.underlying93, rfl, rfl, rfl, by kernel_rfl, by kernel_rfl⟩
instance : Fo Try.prog 93 1 1 9 := ⟨_, _, Try.underlying93, rfl, rfl, rfl, by kernel_rfl, by kernel_rfl⟩
instance : Fo Try.prog 93 2 2 39 := ⟨_, _, Try.underlying93, rfl, rfl, rfl, by kernel_rfl, by kernel_rfl⟩
-- 94: func(api.Pick) string
theorem inf_94 : (Try.prog.info? 94).map (fun i => (i.zero, i.size, i.bytes)) = some (some (.nilFunc), 1, 8) := by kernel_rfl
instance : Siz Try.prog 94 1 := siz_of inf_94
instance : Byt Try.prog 94 8 := byt_of inf_94
instance : Zer Try.prog 94 (.nilFunc) := zer_of inf_94
instance : Sca Try.prog 94 := ⟨_, Try.underlying94, rfl⟩
-- 95: func(string, api.Ask) bool
theorem inf_95 : (Try.prog.info? 95).map (fun i => (i.zero, i.size, i.bytes)) = some (some (.nilFunc), 1, 8) := by kernel_rfl
instance : Siz Try.prog 95 1 := siz_of inf_95
instance : Byt Try.prog 95 8 := byt_of inf_95
instance : Zer Try.prog 95 (.nilFunc) := zer_of inf_95
instance : Sca Try.prog 95 := ⟨_, Try.underlying95, rfl⟩
-- 96: *api.Thing
theorem inf_96 : (Try.prog.info? 96).map (fun i => (i.zero, i.size, i.bytes)) = some (some (.pointer none), 1, 8) := by kernel_rfl
instance : Siz Try.prog 96 1 := siz_of inf_96
instance : Byt Try.prog 96 8 := byt_of inf_96
instance : Zer Try.prog 96 (.pointer none) := zer_of inf_96
instance : Sca Try.prog 96 := ⟨_, Try.underlying96, rfl⟩
instance : IsPtr Try.prog 96 103 := ⟨Try.underlying96⟩
-- 97: func(*api.Service, string, string) *api.Thing
theorem inf_97 : (Try.prog.info? 97).map (fun i => (i.zero, i.size, i.bytes)) = some (some (.nilFunc), 1, 8) := by kernel_rfl
instance : Siz Try.prog 97 1 := siz_of inf_97
instance : Byt Try.prog 97 8 := byt_of inf_97
instance : Zer Try.prog 97 (.nilFunc) := zer_of inf_97
instance : Sca Try.prog 97 := ⟨_, Try.underlying97, rfl⟩
-- 98: *api.Service
theorem inf_98 : (Try.prog.info? 98).map (fun i => (i.zero, i.size, i.bytes)) = some (some (.pointer none), 1, 8) := by kernel_rfl
instance : Siz Try.prog 98 1 := siz_of inf_98
instance : Byt Try.prog 98 8 := byt_of inf_98
instance : Zer Try.prog 98 (.pointer none) := zer_of inf_98
instance : Sca Try.prog 98 := ⟨_, Try.underlying98, rfl⟩
instance : IsPtr Try.prog 98 100 := ⟨Try.underlying98⟩
-- 99: struct { Types []api.Type; Changes []api.Change; Things []api.Thing }
theorem inf_99 : (Try.prog.info? 99).map (fun i => (i.zero, i.size, i.bytes)) = some (some (.agg #[(.slice none 0 0), (.slice none 0 0), (.slice none 0 0)]), 3, 72) := by kernel_rfl
instance : Siz Try.prog 99 3 := siz_of inf_99
instance : Byt Try.prog 99 72 := byt_of inf_99
instance : Zer Try.prog 99 (.agg #[(.slice none 0 0), (.slice none 0 0), (.slice none 0 0)]) := zer_of inf_99
instance : Stc Try.prog 99 := ⟨_, Try.underlying99⟩
instance : Fo Try.prog 99 0 0 44 := ⟨_, _, Try.underlying99, rfl, rfl, rfl, by kernel_rfl, by kernel_rfl⟩
instance : Fo Try.prog 99 1 1 60 := ⟨_, _, Try.underlying99, rfl, rfl, rfl, by kernel_rfl, by kernel_rfl⟩
instance : Fo Try.prog 99 2 2 45 := ⟨_, _, Try.underlying99, rfl, rfl, rfl, by kernel_rfl, by kernel_rfl⟩
-- 100: api.Service
theorem inf_100 : (Try.prog.info? 100).map (fun i => (i.zero, i.size, i.bytes)) = some (some (.agg #[(.slice none 0 0), (.slice none 0 0), (.slice none 0 0)]), 3, 72) := by kernel_rfl
instance : Siz Try.prog 100 3 := siz_of inf_100
instance : Byt Try.prog 100 72 := byt_of inf_100
instance : Zer Try.prog 100 (.agg #[(.slice none 0 0), (.slice none 0 0), (.slice none 0 0)]) := zer_of inf_100
instance : Stc Try.prog 100 := ⟨_, Try.underlying100⟩
instance : Fo Try.prog 100 0 0 44 := ⟨_, _, Try.underlying100, rfl, rfl, rfl, by kernel_rfl, by kernel_rfl⟩
instance : Fo Try.prog 100 1 1 60 := ⟨_, _, Try.underlying100, rfl, rfl, rfl, by kernel_rfl, by kernel_rfl⟩
instance : Fo Try.prog 100 2 2 45 := ⟨_, _, Try.underlying100, rfl, rfl, rfl, by kernel_rfl, by kernel_rfl⟩
-- 101: []api.Val
theorem inf_101 : (Try.prog.info? 101).map (fun i => (i.zero, i.size, i.bytes)) = some (some (.slice none 0 0), 1, 24) := by kernel_rfl
instance : Siz Try.prog 101 1 := siz_of inf_101
instance : Byt Try.prog 101 24 := byt_of inf_101
instance : Zer Try.prog 101 (.slice none 0 0) := zer_of inf_101
instance : Sca Try.prog 101 := ⟨_, Try.underlying101, rfl⟩
instance : Sli Try.prog 101 105 := ⟨Try.underlying101⟩
-- 102: struct { Type string; Key string; Vals []api.Val }
theorem inf_102 : (Try.prog.info? 102).map (fun i => (i.zero, i.size, i.bytes)) = some (some (.agg #[(.string ⟨#[]⟩), (.string ⟨#[]⟩), (.slice none 0 0)]), 3, 56) := by kernel_rfl
instance : Siz Try.prog 102 3 := siz_of inf_102
instance : Byt Try.prog 102 56 := byt_of inf_102
instance : Zer Try.prog 102 (.agg #[(.string ⟨#[]⟩), (.string ⟨#[]⟩), (.slice none 0 0)]) := zer_of inf_102
instance : Stc Try.prog 102 := ⟨_, Try.underlying102⟩
instance : Fo Try.prog 102 0 0 9 := ⟨_, _, Try.underlying102, rfl, rfl, rfl, by kernel_rfl, by kernel_rfl⟩
instance : Fo Try.prog 102 1 1 9 := ⟨_, _, Try.underlying102, rfl, rfl, rfl, by kernel_rfl, by kernel_rfl⟩
instance : Fo Try.prog 102 2 2 101 := ⟨_, _, Try.underlying102, rfl, rfl, rfl, by kernel_rfl, by kernel_rfl⟩
-- 103: api.Thing
theorem inf_103 : (Try.prog.info? 103).map (fun i => (i.zero, i.size, i.bytes)) = some (some (.agg #[(.string ⟨#[]⟩), (.string ⟨#[]⟩), (.slice none 0 0)]), 3, 56) := by kernel_rfl
instance : Siz Try.prog 103 3 := siz_of inf_103
instance : Byt Try.prog 103 56 := byt_of inf_103
instance : Zer Try.prog 103 (.agg #[(.string ⟨#[]⟩), (.string ⟨#[]⟩), (.slice none 0 0)]) := zer_of inf_103
instance : Stc Try.prog 103 := ⟨_, Try.underlying103⟩
instance : Fo Try.prog 103 0 0 9 := ⟨_, _, Try.underlying103, rfl, rfl, rfl, by kernel_rfl, by kernel_rfl⟩
instance : Fo Try.prog 103 1 1 9 := ⟨_, _, Try.underlying103, rfl, rfl, rfl, by kernel_rfl, by kernel_rfl⟩
instance : Fo Try.prog 103 2 2 101 := ⟨_, _, Try.underlying103, rfl, rfl, rfl, by kernel_rfl, by kernel_rfl⟩
-- 104: struct { Field string; Text string; Keys []string }
theorem inf_104 : (Try.prog.info? 104).map (fun i => (i.zero, i.size, i.bytes)) = some (some (.agg #[(.string ⟨#[]⟩), (.string ⟨#[]⟩), (.slice none 0 0)]), 3, 56) := by kernel_rfl
instance : Siz Try.prog 104 3 := siz_of inf_104
instance : Byt Try.prog 104 56 := byt_of inf_104
instance : Zer Try.prog 104 (.agg #[(.string ⟨#[]⟩), (.string ⟨#[]⟩), (.slice none 0 0)]) := zer_of inf_104
instance : Stc Try.prog 104 := ⟨_, Try.underlying104⟩
instance : Fo Try.prog 104 0 0 9 := ⟨_, _, Try.underlying104, rfl, rfl, rfl, by kernel_rfl, by kernel_rfl⟩
instance : Fo Try.prog 104 1 1 9 := ⟨_, _, Try.underlying104, rfl, rfl, rfl, by kernel_rfl, by kernel_rfl⟩
instance : Fo Try.prog 104 2 2 23 := ⟨_, _, Try.underlying104, rfl, rfl, rfl, by kernel_rfl, by kernel_rfl⟩
-- 105: api.Val
theorem inf_105 : (Try.prog.info? 105).map (fun i => (i.zero, i.size, i.bytes)) = some (some (.agg #[(.string ⟨#[]⟩), (.string ⟨#[]⟩), (.slice none 0 0)]), 3, 56) := by kernel_rfl
instance : Siz Try.prog 105 3 := siz_of inf_105
instance : Byt Try.prog 105 56 := byt_of inf_105
instance : Zer Try.prog 105 (.agg #[(.string ⟨#[]⟩), (.string ⟨#[]⟩), (.slice none 0 0)]) := zer_of inf_105
instance : Stc Try.prog 105 := ⟨_, Try.underlying105⟩
instance : Fo Try.prog 105 0 0 9 := ⟨_, _, Try.underlying105, rfl, rfl, rfl, by kernel_rfl, by kernel_rfl⟩
instance : Fo Try.prog 105 1 1 9 := ⟨_, _, Try.underlying105, rfl, rfl, rfl, by kernel_rfl, by kernel_rfl⟩
instance : Fo Try.prog 105 2 2 23 := ⟨_, _, Try.underlying105, rfl, rfl, rfl, by kernel_rfl, by kernel_rfl⟩
-- 106: func([]string) []string
theorem inf_106 : (Try.prog.info? 106).map (fun i => (i.zero, i.size, i.bytes)) = some (some (.nilFunc), 1, 8) := by kernel_rfl
instance : Siz Try.prog 106 1 := siz_of inf_106
instance : Byt Try.prog 106 8 := byt_of inf_106
instance : Zer Try.prog 106 (.nilFunc) := zer_of inf_106
instance : Sca Try.prog 106 := ⟨_, Try.underlying106, rfl⟩
-- 107: func([]api.Thing, string, string) *api.Thing
theorem inf_107 : (Try.prog.info? 107).map (fun i => (i.zero, i.size, i.bytes)) = some (some (.nilFunc), 1, 8) := by kernel_rfl
instance : Siz Try.prog 107 1 := siz_of inf_107
instance : Byt Try.prog 107 8 := byt_of inf_107
instance : Zer Try.prog 107 (.nilFunc) := zer_of inf_107
instance : Sca Try.prog 107 := ⟨_, Try.underlying107, rfl⟩
-- 108: func([]string, string) bool
theorem inf_108 : (Try.prog.info? 108).map (fun i => (i.zero, i.size, i.bytes)) = some (some (.nilFunc), 1, 8) := by kernel_rfl
instance : Siz Try.prog 108 1 := siz_of inf_108
instance : Byt Try.prog 108 8 := byt_of inf_108
instance : Zer Try.prog 108 (.nilFunc) := zer_of inf_108
instance : Sca Try.prog 108 := ⟨_, Try.underlying108, rfl⟩
-- 109: func([]api.Field, string) bool
theorem inf_109 : (Try.prog.info? 109).map (fun i => (i.zero, i.size, i.bytes)) = some (some (.nilFunc), 1, 8) := by kernel_rfl
instance : Siz Try.prog 109 1 := siz_of inf_109
instance : Byt Try.prog 109 8 := byt_of inf_109
instance : Zer Try.prog 109 (.nilFunc) := zer_of inf_109
instance : Sca Try.prog 109 := ⟨_, Try.underlying109, rfl⟩
-- 110: func() []api.Service
theorem inf_110 : (Try.prog.info? 110).map (fun i => (i.zero, i.size, i.bytes)) = some (some (.nilFunc), 1, 8) := by kernel_rfl
instance : Siz Try.prog 110 1 := siz_of inf_110
instance : Byt Try.prog 110 8 := byt_of inf_110
instance : Zer Try.prog 110 (.nilFunc) := zer_of inf_110
instance : Sca Try.prog 110 := ⟨_, Try.underlying110, rfl⟩
-- 111: func([]api.Part, string, []api.Pick) api.Errno
theorem inf_111 : (Try.prog.info? 111).map (fun i => (i.zero, i.size, i.bytes)) = some (some (.nilFunc), 1, 8) := by kernel_rfl
instance : Siz Try.prog 111 1 := siz_of inf_111
instance : Byt Try.prog 111 8 := byt_of inf_111
instance : Zer Try.prog 111 (.nilFunc) := zer_of inf_111
instance : Sca Try.prog 111 := ⟨_, Try.underlying111, rfl⟩
-- 112: []uint8
theorem inf_112 : (Try.prog.info? 112).map (fun i => (i.zero, i.size, i.bytes)) = some (some (.slice none 0 0), 1, 24) := by kernel_rfl
instance : Siz Try.prog 112 1 := siz_of inf_112
instance : Byt Try.prog 112 24 := byt_of inf_112
instance : Zer Try.prog 112 (.slice none 0 0) := zer_of inf_112
instance : Sca Try.prog 112 := ⟨_, Try.underlying112, rfl⟩
instance : Sli Try.prog 112 5 := ⟨Try.underlying112⟩
-- 113: func([]api.Type, func(api.Type) bool) int
theorem inf_113 : (Try.prog.info? 113).map (fun i => (i.zero, i.size, i.bytes)) = some (some (.nilFunc), 1, 8) := by kernel_rfl
instance : Siz Try.prog 113 1 := siz_of inf_113
instance : Byt Try.prog 113 8 := byt_of inf_113
instance : Zer Try.prog 113 (.nilFunc) := zer_of inf_113
instance : Sca Try.prog 113 := ⟨_, Try.underlying113, rfl⟩
-- 114: func(api.Type) bool
theorem inf_114 : (Try.prog.info? 114).map (fun i => (i.zero, i.size, i.bytes)) = some (some (.nilFunc), 1, 8) := by kernel_rfl
instance : Siz Try.prog 114 1 := siz_of inf_114
instance : Byt Try.prog 114 8 := byt_of inf_114
instance : Zer Try.prog 114 (.nilFunc) := zer_of inf_114
instance : Sca Try.prog 114 := ⟨_, Try.underlying114, rfl⟩
-- 115: func([]api.Type, *api.Type) api.Errno
theorem inf_115 : (Try.prog.info? 115).map (fun i => (i.zero, i.size, i.bytes)) = some (some (.nilFunc), 1, 8) := by kernel_rfl
instance : Siz Try.prog 115 1 := siz_of inf_115
instance : Byt Try.prog 115 8 := byt_of inf_115
instance : Zer Try.prog 115 (.nilFunc) := zer_of inf_115
instance : Sca Try.prog 115 := ⟨_, Try.underlying115, rfl⟩
-- 116: func(api.Errno) api.Fault
theorem inf_116 : (Try.prog.info? 116).map (fun i => (i.zero, i.size, i.bytes)) = some (some (.nilFunc), 1, 8) := by kernel_rfl
instance : Siz Try.prog 116 1 := siz_of inf_116
instance : Byt Try.prog 116 8 := byt_of inf_116
instance : Zer Try.prog 116 (.nilFunc) := zer_of inf_116
instance : Sca Try.prog 116 := ⟨_, Try.underlying116, rfl⟩
-- 117: struct { Name string; Kind int; Type string }
theorem inf_117 : (Try.prog.info? 117).map (fun i => (i.zero, i.size, i.bytes)) = some (some (.agg #[(.string ⟨#[]⟩), (.int .i64 0), (.string ⟨#[]⟩)]), 3, 40) := by kernel_rfl
instance : Siz Try.prog 117 3 := siz_of inf_117
instance : Byt Try.prog 117 40 := byt_of inf_117
instance : Zer Try.prog 117 (.agg #[(.string ⟨#[]⟩), (.int .i64 0), (.string ⟨#[]⟩)]) := zer_of inf_117
instance : Stc Try.prog 117 := ⟨_, Try.underlying117⟩
instance : Fo Try.prog 117 0 0 9 := ⟨_, _, Try.underlying117, rfl, rfl, rfl, by kernel_rfl, by kernel_rfl⟩
instance : Fo Try.prog 117 1 1 3 := ⟨_, _, Try.underlying117, rfl, rfl, rfl, by kernel_rfl, by kernel_rfl⟩
instance : Fo Try.prog 117 2 2 9 := ⟨_, _, Try.underlying117, rfl, rfl, rfl, by kernel_rfl, by kernel_rfl⟩
-- 118: api.Field
theorem inf_118 : (Try.prog.info? 118).map (fun i => (i.zero, i.size, i.bytes)) = some (some (.agg #[(.string ⟨#[]⟩), (.int .i64 0), (.string ⟨#[]⟩)]), 3, 40) := by kernel_rfl
instance : Siz Try.prog 118 3 := siz_of inf_118
instance : Byt Try.prog 118 40 := byt_of inf_118
instance : Zer Try.prog 118 (.agg #[(.string ⟨#[]⟩), (.int .i64 0), (.string ⟨#[]⟩)]) := zer_of inf_118
instance : Stc Try.prog 118 := ⟨_, Try.underlying118⟩
instance : Fo Try.prog 118 0 0 9 := ⟨_, _, Try.underlying118, rfl, rfl, rfl, by kernel_rfl, by kernel_rfl⟩
instance : Fo Try.prog 118 1 1 3 := ⟨_, _, Try.underlying118, rfl, rfl, rfl, by kernel_rfl, by kernel_rfl⟩
instance : Fo Try.prog 118 2 2 9 := ⟨_, _, Try.underlying118, rfl, rfl, rfl, by kernel_rfl, by kernel_rfl⟩
-- 119: func([]api.Field, func(api.Field) bool) int
theorem inf_119 : (Try.prog.info? 119).map (fun i => (i.zero, i.size, i.bytes)) = some (some (.nilFunc), 1, 8) := by kernel_rfl
instance : Siz Try.prog 119 1 := siz_of inf_119
instance : Byt Try.prog 119 8 := byt_of inf_119
instance : Zer Try.prog 119 (.nilFunc) := zer_of inf_119
instance : Sca Try.prog 119 := ⟨_, Try.underlying119, rfl⟩
-- 120: func(api.Field) bool
theorem inf_120 : (Try.prog.info? 120).map (fun i => (i.zero, i.size, i.bytes)) = some (some (.nilFunc), 1, 8) := by kernel_rfl
instance : Siz Try.prog 120 1 := siz_of inf_120
instance : Byt Try.prog 120 8 := byt_of inf_120
instance : Zer Try.prog 120 (.nilFunc) := zer_of inf_120
instance : Sca Try.prog 120 := ⟨_, Try.underlying120, rfl⟩
-- 121: func([]api.Thing, func(api.Thing) bool) bool
theorem inf_121 : (Try.prog.info? 121).map (fun i => (i.zero, i.size, i.bytes)) = some (some (.nilFunc), 1, 8) := by kernel_rfl
instance : Siz Try.prog 121 1 := siz_of inf_121
instance : Byt Try.prog 121 8 := byt_of inf_121
instance : Zer Try.prog 121 (.nilFunc) := zer_of inf_121
instance : Sca Try.prog 121 := ⟨_, Try.underlying121, rfl⟩
-- 122: func(api.Thing) bool
theorem inf_122 : (Try.prog.info? 122).map (fun i => (i.zero, i.size, i.bytes)) = some (some (.nilFunc), 1, 8) := by kernel_rfl
instance : Siz Try.prog 122 1 := siz_of inf_122
instance : Byt Try.prog 122 8 := byt_of inf_122
instance : Zer Try.prog 122 (.nilFunc) := zer_of inf_122
instance : Sca Try.prog 122 := ⟨_, Try.underlying122, rfl⟩
-- 123: func(*api.Type, []api.Val) api.Errno
theorem inf_123 : (Try.prog.info? 123).map (fun i => (i.zero, i.size, i.bytes)) = some (some (.nilFunc), 1, 8) := by kernel_rfl
instance : Siz Try.prog 123 1 := siz_of inf_123
instance : Byt Try.prog 123 8 := byt_of inf_123
instance : Zer Try.prog 123 (.nilFunc) := zer_of inf_123
instance : Sca Try.prog 123 := ⟨_, Try.underlying123, rfl⟩
-- 124: func() []api.Type
theorem inf_124 : (Try.prog.info? 124).map (fun i => (i.zero, i.size, i.bytes)) = some (some (.nilFunc), 1, 8) := by kernel_rfl
instance : Siz Try.prog 124 1 := siz_of inf_124
instance : Byt Try.prog 124 8 := byt_of inf_124
instance : Zer Try.prog 124 (.nilFunc) := zer_of inf_124
instance : Sca Try.prog 124 := ⟨_, Try.underlying124, rfl⟩
-- 125: change.view
theorem inf_125 : (Try.prog.info? 125).map (fun i => (i.zero, i.size, i.bytes)) = some (some (.slice none 0 0), 1, 24) := by kernel_rfl
instance : Siz Try.prog 125 1 := siz_of inf_125
instance : Byt Try.prog 125 24 := byt_of inf_125
instance : Zer Try.prog 125 (.slice none 0 0) := zer_of inf_125
instance : Sca Try.prog 125 := ⟨_, Try.underlying125, rfl⟩
instance : Sli Try.prog 125 74 := ⟨Try.underlying125⟩
-- 126: func([]api.Field) []api.Field
theorem inf_126 : (Try.prog.info? 126).map (fun i => (i.zero, i.size, i.bytes)) = some (some (.nilFunc), 1, 8) := by kernel_rfl
instance : Siz Try.prog 126 1 := siz_of inf_126
instance : Byt Try.prog 126 8 := byt_of inf_126
instance : Zer Try.prog 126 (.nilFunc) := zer_of inf_126
instance : Sca Try.prog 126 := ⟨_, Try.underlying126, rfl⟩
-- 127: func(*api.Change) api.Errno
theorem inf_127 : (Try.prog.info? 127).map (fun i => (i.zero, i.size, i.bytes)) = some (some (.nilFunc), 1, 8) := by kernel_rfl
instance : Siz Try.prog 127 1 := siz_of inf_127
instance : Byt Try.prog 127 8 := byt_of inf_127
instance : Zer Try.prog 127 (.nilFunc) := zer_of inf_127
instance : Sca Try.prog 127 := ⟨_, Try.underlying127, rfl⟩
-- 128: *api.Change
theorem inf_128 : (Try.prog.info? 128).map (fun i => (i.zero, i.size, i.bytes)) = some (some (.pointer none), 1, 8) := by kernel_rfl
instance : Siz Try.prog 128 1 := siz_of inf_128
instance : Byt Try.prog 128 8 := byt_of inf_128
instance : Zer Try.prog 128 (.pointer none) := zer_of inf_128
instance : Sca Try.prog 128 := ⟨_, Try.underlying128, rfl⟩
instance : IsPtr Try.prog 128 82 := ⟨Try.underlying128⟩
-- 129: func(api.Change) api.Errno
theorem inf_129 : (Try.prog.info? 129).map (fun i => (i.zero, i.size, i.bytes)) = some (some (.nilFunc), 1, 8) := by kernel_rfl
instance : Siz Try.prog 129 1 := siz_of inf_129
instance : Byt Try.prog 129 8 := byt_of inf_129
instance : Zer Try.prog 129 (.nilFunc) := zer_of inf_129
instance : Sca Try.prog 129 := ⟨_, Try.underlying129, rfl⟩
-- 130: *stitchref1.Seen
theorem inf_130 : (Try.prog.info? 130).map (fun i => (i.zero, i.size, i.bytes)) = some (some (.pointer none), 1, 8) := by kernel_rfl
instance : Siz Try.prog 130 1 := siz_of inf_130
instance : Byt Try.prog 130 8 := byt_of inf_130
instance : Zer Try.prog 130 (.pointer none) := zer_of inf_130
instance : Sca Try.prog 130 := ⟨_, Try.underlying130, rfl⟩
instance : IsPtr Try.prog 130 66 := ⟨Try.underlying130⟩
-- 131: func([]string, string) int
theorem inf_131 : (Try.prog.info? 131).map (fun i => (i.zero, i.size, i.bytes)) = some (some (.nilFunc), 1, 8) := by kernel_rfl
instance : Siz Try.prog 131 1 := siz_of inf_131
instance : Byt Try.prog 131 8 := byt_of inf_131
instance : Zer Try.prog 131 (.nilFunc) := zer_of inf_131
instance : Sca Try.prog 131 := ⟨_, Try.underlying131, rfl⟩
-- 132: struct { api.Fault }
theorem inf_132 : (Try.prog.info? 132).map (fun i => (i.zero, i.size, i.bytes)) = some (some (.agg #[(.int .i64 0), (.int .i64 0)]), 2, 16) := by kernel_rfl
instance : Siz Try.prog 132 2 := siz_of inf_132
instance : Byt Try.prog 132 16 := byt_of inf_132
instance : Zer Try.prog 132 (.agg #[(.int .i64 0), (.int .i64 0)]) := zer_of inf_132
instance : Stc Try.prog 132 := ⟨_, Try.underlying132⟩
instance : Fo Try.prog 132 0 0 51 := ⟨_, _, Try.underlying132, rfl, rfl, rfl, by kernel_rfl, by kernel_rfl⟩
-- 133: query.oops
theorem inf_133 : (Try.prog.info? 133).map (fun i => (i.zero, i.size, i.bytes)) = some (some (.agg #[(.int .i64 0), (.int .i64 0)]), 2, 16) := by kernel_rfl
instance : Siz Try.prog 133 2 := siz_of inf_133
instance : Byt Try.prog 133 16 := byt_of inf_133
instance : Zer Try.prog 133 (.agg #[(.int .i64 0), (.int .i64 0)]) := zer_of inf_133
instance : Stc Try.prog 133 := ⟨_, Try.underlying133⟩
instance : Fo Try.prog 133 0 0 51 := ⟨_, _, Try.underlying133, rfl, rfl, rfl, by kernel_rfl, by kernel_rfl⟩
-- 134: *query.reader
theorem inf_134 : (Try.prog.info? 134).map (fun i => (i.zero, i.size, i.bytes)) = some (some (.pointer none), 1, 8) := by kernel_rfl
instance : Siz Try.prog 134 1 := siz_of inf_134
instance : Byt Try.prog 134 8 := byt_of inf_134
instance : Zer Try.prog 134 (.pointer none) := zer_of inf_134
instance : Sca Try.prog 134 := ⟨_, Try.underlying134, rfl⟩
instance : IsPtr Try.prog 134 136 := ⟨Try.underlying134⟩
-- 135: struct { s string; at int; picks int }
theorem inf_135 : (Try.prog.info? 135).map (fun i => (i.zero, i.size, i.bytes)) = some (some (.agg #[(.string ⟨#[]⟩), (.int .i64 0), (.int .i64 0)]), 3, 32) := by kernel_rfl
instance : Siz Try.prog 135 3 := siz_of inf_135
instance : Byt Try.prog 135 32 := byt_of inf_135
instance : Zer Try.prog 135 (.agg #[(.string ⟨#[]⟩), (.int .i64 0), (.int .i64 0)]) := zer_of inf_135
instance : Stc Try.prog 135 := ⟨_, Try.underlying135⟩
instance : Fo Try.prog 135 0 0 9 := ⟨_, _, Try.underlying135, rfl, rfl, rfl, by kernel_rfl, by kernel_rfl⟩
instance : Fo Try.prog 135 1 1 3 := ⟨_, _, Try.underlying135, rfl, rfl, rfl, by kernel_rfl, by kernel_rfl⟩
instance : Fo Try.prog 135 2 2 3 := ⟨_, _, Try.underlying135, rfl, rfl, rfl, by kernel_rfl, by kernel_rfl⟩
-- 136: query.reader
theorem inf_136 : (Try.prog.info? 136).map (fun i => (i.zero, i.size, i.bytes)) = some (some (.agg #[(.string ⟨#[]⟩), (.int .i64 0), (.int .i64 0)]), 3, 32) := by kernel_rfl
instance : Siz Try.prog 136 3 := siz_of inf_136
instance : Byt Try.prog 136 32 := byt_of inf_136
instance : Zer Try.prog 136 (.agg #[(.string ⟨#[]⟩), (.int .i64 0), (.int .i64 0)]) := zer_of inf_136
instance : Stc Try.prog 136 := ⟨_, Try.underlying136⟩
instance : Fo Try.prog 136 0 0 9 := ⟨_, _, Try.underlying136, rfl, rfl, rfl, by kernel_rfl, by kernel_rfl⟩
instance : Fo Try.prog 136 1 1 3 := ⟨_, _, Try.underlying136, rfl, rfl, rfl, by kernel_rfl, by kernel_rfl⟩
instance : Fo Try.prog 136 2 2 3 := ⟨_, _, Try.underlying136, rfl, rfl, rfl, by kernel_rfl, by kernel_rfl⟩
-- 137: func() string
theorem inf_137 : (Try.prog.info? 137).map (fun i => (i.zero, i.size, i.bytes)) = some (some (.nilFunc), 1, 8) := by kernel_rfl
instance : Siz Try.prog 137 1 := siz_of inf_137
instance : Byt Try.prog 137 8 := byt_of inf_137
instance : Zer Try.prog 137 (.nilFunc) := zer_of inf_137
instance : Sca Try.prog 137 := ⟨_, Try.underlying137, rfl⟩
-- 138: func(uint8)
theorem inf_138 : (Try.prog.info? 138).map (fun i => (i.zero, i.size, i.bytes)) = some (some (.nilFunc), 1, 8) := by kernel_rfl
instance : Siz Try.prog 138 1 := siz_of inf_138
instance : Byt Try.prog 138 8 := byt_of inf_138
instance : Zer Try.prog 138 (.nilFunc) := zer_of inf_138
instance : Sca Try.prog 138 := ⟨_, Try.underlying138, rfl⟩
-- 139: func(int) []api.Pick
theorem inf_139 : (Try.prog.info? 139).map (fun i => (i.zero, i.size, i.bytes)) = some (some (.nilFunc), 1, 8) := by kernel_rfl
instance : Siz Try.prog 139 1 := siz_of inf_139
instance : Byt Try.prog 139 8 := byt_of inf_139
instance : Zer Try.prog 139 (.nilFunc) := zer_of inf_139
instance : Sca Try.prog 139 := ⟨_, Try.underlying139, rfl⟩
-- 140: func(api.Errno)
theorem inf_140 : (Try.prog.info? 140).map (fun i => (i.zero, i.size, i.bytes)) = some (some (.nilFunc), 1, 8) := by kernel_rfl
instance : Siz Try.prog 140 1 := siz_of inf_140
instance : Byt Try.prog 140 8 := byt_of inf_140
instance : Zer Try.prog 140 (.nilFunc) := zer_of inf_140
instance : Sca Try.prog 140 := ⟨_, Try.underlying140, rfl⟩
-- 141: *stitchref4.Walk
theorem inf_141 : (Try.prog.info? 141).map (fun i => (i.zero, i.size, i.bytes)) = some (some (.pointer none), 1, 8) := by kernel_rfl
instance : Siz Try.prog 141 1 := siz_of inf_141
instance : Byt Try.prog 141 8 := byt_of inf_141
instance : Zer Try.prog 141 (.pointer none) := zer_of inf_141
instance : Sca Try.prog 141 := ⟨_, Try.underlying141, rfl⟩
instance : IsPtr Try.prog 141 143 := ⟨Try.underlying141⟩
-- 142: struct { S string; At int; Picks int; Bad api.Fault }
theorem inf_142 : (Try.prog.info? 142).map (fun i => (i.zero, i.size, i.bytes)) = some (some (.agg #[(.string ⟨#[]⟩), (.int .i64 0), (.int .i64 0), (.int .i64 0), (.int .i64 0)]), 5, 48) := by kernel_rfl
instance : Siz Try.prog 142 5 := siz_of inf_142
instance : Byt Try.prog 142 48 := byt_of inf_142
instance : Zer Try.prog 142 (.agg #[(.string ⟨#[]⟩), (.int .i64 0), (.int .i64 0), (.int .i64 0), (.int .i64 0)]) := zer_of inf_142
instance : Stc Try.prog 142 := ⟨_, Try.underlying142⟩
instance : Fo Try.prog 142 0 0 9 := ⟨_, _, Try.underlying142, rfl, rfl, rfl, by kernel_rfl, by kernel_rfl⟩
instance : Fo Try.prog 142 1 1 3 := ⟨_, _, Try.underlying142, rfl, rfl, rfl, by kernel_rfl, by kernel_rfl⟩
instance : Fo Try.prog 142 2 2 3 := ⟨_, _, Try.underlying142, rfl, rfl, rfl, by kernel_rfl, by kernel_rfl⟩
instance : Fo Try.prog 142 3 3 51 := ⟨_, _, Try.underlying142, rfl, rfl, rfl, by kernel_rfl, by kernel_rfl⟩
-- 143: stitchref4.Walk
theorem inf_143 : (Try.prog.info? 143).map (fun i => (i.zero, i.size, i.bytes)) = some (some (.agg #[(.string ⟨#[]⟩), (.int .i64 0), (.int .i64 0), (.int .i64 0), (.int .i64 0)]), 5, 48) := by kernel_rfl
instance : Siz Try.prog 143 5 := siz_of inf_143
instance : Byt Try.prog 143 48 := byt_of inf_143
instance : Zer Try.prog 143 (.agg #[(.string ⟨#[]⟩), (.int .i64 0), (.int .i64 0), (.int .i64 0), (.int .i64 0)]) := zer_of inf_143
instance : Stc Try.prog 143 := ⟨_, Try.underlying143⟩
instance : Fo Try.prog 143 0 0 9 := ⟨_, _, Try.underlying143, rfl, rfl, rfl, by kernel_rfl, by kernel_rfl⟩
instance : Fo Try.prog 143 1 1 3 := ⟨_, _, Try.underlying143, rfl, rfl, rfl, by kernel_rfl, by kernel_rfl⟩
instance : Fo Try.prog 143 2 2 3 := ⟨_, _, Try.underlying143, rfl, rfl, rfl, by kernel_rfl, by kernel_rfl⟩
instance : Fo Try.prog 143 3 3 51 := ⟨_, _, Try.underlying143, rfl, rfl, rfl, by kernel_rfl, by kernel_rfl⟩
-- 144: func([]api.Pick, []api.Pick) bool
theorem inf_144 : (Try.prog.info? 144).map (fun i => (i.zero, i.size, i.bytes)) = some (some (.nilFunc), 1, 8) := by kernel_rfl
instance : Siz Try.prog 144 1 := siz_of inf_144
instance : Byt Try.prog 144 8 := byt_of inf_144
instance : Zer Try.prog 144 (.nilFunc) := zer_of inf_144
instance : Sca Try.prog 144 := ⟨_, Try.underlying144, rfl⟩
-- 145: func([]api.Pick, int, *int) api.Errno
theorem inf_145 : (Try.prog.info? 145).map (fun i => (i.zero, i.size, i.bytes)) = some (some (.nilFunc), 1, 8) := by kernel_rfl
instance : Siz Try.prog 145 1 := siz_of inf_145
instance : Byt Try.prog 145 8 := byt_of inf_145
instance : Zer Try.prog 145 (.nilFunc) := zer_of inf_145
instance : Sca Try.prog 145 := ⟨_, Try.underlying145, rfl⟩
-- 146: *int
theorem inf_146 : (Try.prog.info? 146).map (fun i => (i.zero, i.size, i.bytes)) = some (some (.pointer none), 1, 8) := by kernel_rfl
instance : Siz Try.prog 146 1 := siz_of inf_146
instance : Byt Try.prog 146 8 := byt_of inf_146
instance : Zer Try.prog 146 (.pointer none) := zer_of inf_146
instance : Sca Try.prog 146 := ⟨_, Try.underlying146, rfl⟩
instance : IsPtr Try.prog 146 3 := ⟨Try.underlying146⟩
-- 148: func([]api.Pick, int, int) (api.Errno, int)
theorem inf_148 : (Try.prog.info? 148).map (fun i => (i.zero, i.size, i.bytes)) = some (some (.nilFunc), 1, 8) := by kernel_rfl
instance : Siz Try.prog 148 1 := siz_of inf_148
instance : Byt Try.prog 148 8 := byt_of inf_148
instance : Zer Try.prog 148 (.nilFunc) := zer_of inf_148
instance : Sca Try.prog 148 := ⟨_, Try.underlying148, rfl⟩
-- 149: *strings.Builder
theorem inf_149 : (Try.prog.info? 149).map (fun i => (i.zero, i.size, i.bytes)) = some (some (.pointer none), 1, 8) := by kernel_rfl
instance : Siz Try.prog 149 1 := siz_of inf_149
instance : Byt Try.prog 149 8 := byt_of inf_149
instance : Zer Try.prog 149 (.pointer none) := zer_of inf_149
instance : Sca Try.prog 149 := ⟨_, Try.underlying149, rfl⟩
instance : IsPtr Try.prog 149 151 := ⟨Try.underlying149⟩
-- 150: struct { addr *strings.Builder; buf []uint8 }
theorem inf_150 : (Try.prog.info? 150).map (fun i => (i.zero, i.size, i.bytes)) = some (some (.agg #[(.pointer none), (.slice none 0 0)]), 2, 32) := by kernel_rfl
instance : Siz Try.prog 150 2 := siz_of inf_150
instance : Byt Try.prog 150 32 := byt_of inf_150
instance : Zer Try.prog 150 (.agg #[(.pointer none), (.slice none 0 0)]) := zer_of inf_150
instance : Stc Try.prog 150 := ⟨_, Try.underlying150⟩
instance : Fo Try.prog 150 0 0 149 := ⟨_, _, Try.underlying150, rfl, rfl, rfl, by kernel_rfl, by kernel_rfl⟩
instance : Fo Try.prog 150 1 1 112 := ⟨_, _, Try.underlying150, rfl, rfl, rfl, by kernel_rfl, by kernel_rfl⟩
-- 151: strings.Builder
theorem inf_151 : (Try.prog.info? 151).map (fun i => (i.zero, i.size, i.bytes)) = some (some (.agg #[(.pointer none), (.slice none 0 0)]), 2, 32) := by kernel_rfl
instance : Siz Try.prog 151 2 := siz_of inf_151
instance : Byt Try.prog 151 32 := byt_of inf_151
instance : Zer Try.prog 151 (.agg #[(.pointer none), (.slice none 0 0)]) := zer_of inf_151
instance : Stc Try.prog 151 := ⟨_, Try.underlying151⟩
instance : Fo Try.prog 151 0 0 149 := ⟨_, _, Try.underlying151, rfl, rfl, rfl, by kernel_rfl, by kernel_rfl⟩
instance : Fo Try.prog 151 1 1 112 := ⟨_, _, Try.underlying151, rfl, rfl, rfl, by kernel_rfl, by kernel_rfl⟩
-- 153: error
theorem inf_153 : (Try.prog.info? 153).map (fun i => (i.zero, i.size, i.bytes)) = some (some (.nilIface), 1, 16) := by kernel_rfl
instance : Siz Try.prog 153 1 := siz_of inf_153
instance : Byt Try.prog 153 16 := byt_of inf_153
instance : Zer Try.prog 153 (.nilIface) := zer_of inf_153
instance : Sca Try.prog 153 := ⟨_, Try.underlying153, rfl⟩
-- 156: func(*strings.Builder, []api.Pick)
theorem inf_156 : (Try.prog.info? 156).map (fun i => (i.zero, i.size, i.bytes)) = some (some (.nilFunc), 1, 8) := by kernel_rfl
instance : Siz Try.prog 156 1 := siz_of inf_156
instance : Byt Try.prog 156 8 := byt_of inf_156
instance : Zer Try.prog 156 (.nilFunc) := zer_of inf_156
instance : Sca Try.prog 156 := ⟨_, Try.underlying156, rfl⟩
-- 157: func() int
theorem inf_157 : (Try.prog.info? 157).map (fun i => (i.zero, i.size, i.bytes)) = some (some (.nilFunc), 1, 8) := by kernel_rfl
instance : Siz Try.prog 157 1 := siz_of inf_157
instance : Byt Try.prog 157 8 := byt_of inf_157
instance : Zer Try.prog 157 (.nilFunc) := zer_of inf_157
instance : Sca Try.prog 157 := ⟨_, Try.underlying157, rfl⟩
-- 158: func([]api.Pick) string
theorem inf_158 : (Try.prog.info? 158).map (fun i => (i.zero, i.size, i.bytes)) = some (some (.nilFunc), 1, 8) := by kernel_rfl
instance : Siz Try.prog 158 1 := siz_of inf_158
instance : Byt Try.prog 158 8 := byt_of inf_158
instance : Zer Try.prog 158 (.nilFunc) := zer_of inf_158
instance : Sca Try.prog 158 := ⟨_, Try.underlying158, rfl⟩
-- 159: func([]api.Thing, func(api.Thing) bool) int
theorem inf_159 : (Try.prog.info? 159).map (fun i => (i.zero, i.size, i.bytes)) = some (some (.nilFunc), 1, 8) := by kernel_rfl
instance : Siz Try.prog 159 1 := siz_of inf_159
instance : Byt Try.prog 159 8 := byt_of inf_159
instance : Zer Try.prog 159 (.nilFunc) := zer_of inf_159
instance : Sca Try.prog 159 := ⟨_, Try.underlying159, rfl⟩
-- 160: func([]api.Part, string) int
theorem inf_160 : (Try.prog.info? 160).map (fun i => (i.zero, i.size, i.bytes)) = some (some (.nilFunc), 1, 8) := by kernel_rfl
instance : Siz Try.prog 160 1 := siz_of inf_160
instance : Byt Try.prog 160 8 := byt_of inf_160
instance : Zer Try.prog 160 (.nilFunc) := zer_of inf_160
instance : Sca Try.prog 160 := ⟨_, Try.underlying160, rfl⟩
-- 161: []api.Owner
theorem inf_161 : (Try.prog.info? 161).map (fun i => (i.zero, i.size, i.bytes)) = some (some (.slice none 0 0), 1, 24) := by kernel_rfl
instance : Siz Try.prog 161 1 := siz_of inf_161
instance : Byt Try.prog 161 24 := byt_of inf_161
instance : Zer Try.prog 161 (.slice none 0 0) := zer_of inf_161
instance : Sca Try.prog 161 := ⟨_, Try.underlying161, rfl⟩
instance : Sli Try.prog 161 200 := ⟨Try.underlying161⟩
-- 162: struct { Type api.Type; Owners []api.Owner; Homes []api.Owner }
theorem inf_162 : (Try.prog.info? 162).map (fun i => (i.zero, i.size, i.bytes)) = some (some (.agg #[(.string ⟨#[]⟩), (.slice none 0 0), (.slice none 0 0), (.slice none 0 0)]), 4, 88) := by kernel_rfl
instance : Siz Try.prog 162 4 := siz_of inf_162
instance : Byt Try.prog 162 88 := byt_of inf_162
instance : Zer Try.prog 162 (.agg #[(.string ⟨#[]⟩), (.slice none 0 0), (.slice none 0 0), (.slice none 0 0)]) := zer_of inf_162
instance : Stc Try.prog 162 := ⟨_, Try.underlying162⟩
instance : Fo Try.prog 162 0 0 55 := ⟨_, _, Try.underlying162, rfl, rfl, rfl, by kernel_rfl, by kernel_rfl⟩
instance : Fo Try.prog 162 1 2 161 := ⟨_, _, Try.underlying162, rfl, rfl, rfl, by kernel_rfl, by kernel_rfl⟩
instance : Fo Try.prog 162 2 3 161 := ⟨_, _, Try.underlying162, rfl, rfl, rfl, by kernel_rfl, by kernel_rfl⟩
-- 163: api.Part
theorem inf_163 : (Try.prog.info? 163).map (fun i => (i.zero, i.size, i.bytes)) = some (some (.agg #[(.string ⟨#[]⟩), (.slice none 0 0), (.slice none 0 0), (.slice none 0 0)]), 4, 88) := by kernel_rfl
instance : Siz Try.prog 163 4 := siz_of inf_163
instance : Byt Try.prog 163 88 := byt_of inf_163
instance : Zer Try.prog 163 (.agg #[(.string ⟨#[]⟩), (.slice none 0 0), (.slice none 0 0), (.slice none 0 0)]) := zer_of inf_163
instance : Stc Try.prog 163 := ⟨_, Try.underlying163⟩
instance : Fo Try.prog 163 0 0 55 := ⟨_, _, Try.underlying163, rfl, rfl, rfl, by kernel_rfl, by kernel_rfl⟩
instance : Fo Try.prog 163 1 2 161 := ⟨_, _, Try.underlying163, rfl, rfl, rfl, by kernel_rfl, by kernel_rfl⟩
instance : Fo Try.prog 163 2 3 161 := ⟨_, _, Try.underlying163, rfl, rfl, rfl, by kernel_rfl, by kernel_rfl⟩
-- 164: func([]api.Pick, func(api.Pick) bool) bool
theorem inf_164 : (Try.prog.info? 164).map (fun i => (i.zero, i.size, i.bytes)) = some (some (.nilFunc), 1, 8) := by kernel_rfl
instance : Siz Try.prog 164 1 := siz_of inf_164
instance : Byt Try.prog 164 8 := byt_of inf_164
instance : Zer Try.prog 164 (.nilFunc) := zer_of inf_164
instance : Sca Try.prog 164 := ⟨_, Try.underlying164, rfl⟩
-- 165: func(api.Pick) bool
theorem inf_165 : (Try.prog.info? 165).map (fun i => (i.zero, i.size, i.bytes)) = some (some (.nilFunc), 1, 8) := by kernel_rfl
instance : Siz Try.prog 165 1 := siz_of inf_165
instance : Byt Try.prog 165 8 := byt_of inf_165
instance : Zer Try.prog 165 (.nilFunc) := zer_of inf_165
instance : Sca Try.prog 165 := ⟨_, Try.underlying165, rfl⟩
-- 166: *api.Part
theorem inf_166 : (Try.prog.info? 166).map (fun i => (i.zero, i.size, i.bytes)) = some (some (.pointer none), 1, 8) := by kernel_rfl
instance : Siz Try.prog 166 1 := siz_of inf_166
instance : Byt Try.prog 166 8 := byt_of inf_166
instance : Zer Try.prog 166 (.pointer none) := zer_of inf_166
instance : Sca Try.prog 166 := ⟨_, Try.underlying166, rfl⟩
instance : IsPtr Try.prog 166 163 := ⟨Try.underlying166⟩
-- 167: func([]api.Part, string) *api.Part
theorem inf_167 : (Try.prog.info? 167).map (fun i => (i.zero, i.size, i.bytes)) = some (some (.nilFunc), 1, 8) := by kernel_rfl
instance : Siz Try.prog 167 1 := siz_of inf_167
instance : Byt Try.prog 167 8 := byt_of inf_167
instance : Zer Try.prog 167 (.nilFunc) := zer_of inf_167
instance : Sca Try.prog 167 := ⟨_, Try.underlying167, rfl⟩
-- 168: func([]string, func(string) bool) bool
theorem inf_168 : (Try.prog.info? 168).map (fun i => (i.zero, i.size, i.bytes)) = some (some (.nilFunc), 1, 8) := by kernel_rfl
instance : Siz Try.prog 168 1 := siz_of inf_168
instance : Byt Try.prog 168 8 := byt_of inf_168
instance : Zer Try.prog 168 (.nilFunc) := zer_of inf_168
instance : Sca Try.prog 168 := ⟨_, Try.underlying168, rfl⟩
-- 169: func(string) int
theorem inf_169 : (Try.prog.info? 169).map (fun i => (i.zero, i.size, i.bytes)) = some (some (.nilFunc), 1, 8) := by kernel_rfl
instance : Siz Try.prog 169 1 := siz_of inf_169
instance : Byt Try.prog 169 8 := byt_of inf_169
instance : Zer Try.prog 169 (.nilFunc) := zer_of inf_169
instance : Sca Try.prog 169 := ⟨_, Try.underlying169, rfl⟩
-- 170: func(int, string)
theorem inf_170 : (Try.prog.info? 170).map (fun i => (i.zero, i.size, i.bytes)) = some (some (.nilFunc), 1, 8) := by kernel_rfl
instance : Siz Try.prog 170 1 := siz_of inf_170
instance : Byt Try.prog 170 8 := byt_of inf_170
instance : Zer Try.prog 170 (.nilFunc) := zer_of inf_170
instance : Sca Try.prog 170 := ⟨_, Try.underlying170, rfl⟩
-- 171: func([]api.Field, int, int) []api.Field
theorem inf_171 : (Try.prog.info? 171).map (fun i => (i.zero, i.size, i.bytes)) = some (some (.nilFunc), 1, 8) := by kernel_rfl
instance : Siz Try.prog 171 1 := siz_of inf_171
instance : Byt Try.prog 171 8 := byt_of inf_171
instance : Zer Try.prog 171 (.nilFunc) := zer_of inf_171
instance : Sca Try.prog 171 := ⟨_, Try.underlying171, rfl⟩
-- 172: func([]string, int, int) []string
theorem inf_172 : (Try.prog.info? 172).map (fun i => (i.zero, i.size, i.bytes)) = some (some (.nilFunc), 1, 8) := by kernel_rfl
instance : Siz Try.prog 172 1 := siz_of inf_172
instance : Byt Try.prog 172 8 := byt_of inf_172
instance : Zer Try.prog 172 (.nilFunc) := zer_of inf_172
instance : Sca Try.prog 172 := ⟨_, Try.underlying172, rfl⟩
-- 173: func(uint8) bool
theorem inf_173 : (Try.prog.info? 173).map (fun i => (i.zero, i.size, i.bytes)) = some (some (.nilFunc), 1, 8) := by kernel_rfl
instance : Siz Try.prog 173 1 := siz_of inf_173
instance : Byt Try.prog 173 8 := byt_of inf_173
instance : Zer Try.prog 173 (.nilFunc) := zer_of inf_173
instance : Sca Try.prog 173 := ⟨_, Try.underlying173, rfl⟩
-- 174: func(int) api.Pick
theorem inf_174 : (Try.prog.info? 174).map (fun i => (i.zero, i.size, i.bytes)) = some (some (.nilFunc), 1, 8) := by kernel_rfl
instance : Siz Try.prog 174 1 := siz_of inf_174
instance : Byt Try.prog 174 8 := byt_of inf_174
instance : Zer Try.prog 174 (.nilFunc) := zer_of inf_174
instance : Sca Try.prog 174 := ⟨_, Try.underlying174, rfl⟩
-- 176: *uint8
theorem inf_176 : (Try.prog.info? 176).map (fun i => (i.zero, i.size, i.bytes)) = some (some (.pointer none), 1, 8) := by kernel_rfl
instance : Siz Try.prog 176 1 := siz_of inf_176
instance : Byt Try.prog 176 8 := byt_of inf_176
instance : Zer Try.prog 176 (.pointer none) := zer_of inf_176
instance : Sca Try.prog 176 := ⟨_, Try.underlying176, rfl⟩
instance : IsPtr Try.prog 176 5 := ⟨Try.underlying176⟩
-- 177: func([]api.Part, func(api.Part) bool) int
theorem inf_177 : (Try.prog.info? 177).map (fun i => (i.zero, i.size, i.bytes)) = some (some (.nilFunc), 1, 8) := by kernel_rfl
instance : Siz Try.prog 177 1 := siz_of inf_177
instance : Byt Try.prog 177 8 := byt_of inf_177
instance : Zer Try.prog 177 (.nilFunc) := zer_of inf_177
instance : Sca Try.prog 177 := ⟨_, Try.underlying177, rfl⟩
-- 178: func(api.Part) bool
theorem inf_178 : (Try.prog.info? 178).map (fun i => (i.zero, i.size, i.bytes)) = some (some (.nilFunc), 1, 8) := by kernel_rfl
instance : Siz Try.prog 178 1 := siz_of inf_178
instance : Byt Try.prog 178 8 := byt_of inf_178
instance : Zer Try.prog 178 (.nilFunc) := zer_of inf_178
instance : Sca Try.prog 178 := ⟨_, Try.underlying178, rfl⟩
-- 179: func([]api.Pick, func(api.Pick) bool) int
theorem inf_179 : (Try.prog.info? 179).map (fun i => (i.zero, i.size, i.bytes)) = some (some (.nilFunc), 1, 8) := by kernel_rfl
instance : Siz Try.prog 179 1 := siz_of inf_179
instance : Byt Try.prog 179 8 := byt_of inf_179
instance : Zer Try.prog 179 (.nilFunc) := zer_of inf_179
instance : Sca Try.prog 179 := ⟨_, Try.underlying179, rfl⟩
-- 180: func([]string, func(string) bool) int
theorem inf_180 : (Try.prog.info? 180).map (fun i => (i.zero, i.size, i.bytes)) = some (some (.nilFunc), 1, 8) := by kernel_rfl
instance : Siz Try.prog 180 1 := siz_of inf_180
instance : Byt Try.prog 180 8 := byt_of inf_180
instance : Zer Try.prog 180 (.nilFunc) := zer_of inf_180
instance : Sca Try.prog 180 := ⟨_, Try.underlying180, rfl⟩
-- 181: func(change.view, func(api.Seen) bool) int
theorem inf_181 : (Try.prog.info? 181).map (fun i => (i.zero, i.size, i.bytes)) = some (some (.nilFunc), 1, 8) := by kernel_rfl
instance : Siz Try.prog 181 1 := siz_of inf_181
instance : Byt Try.prog 181 8 := byt_of inf_181
instance : Zer Try.prog 181 (.nilFunc) := zer_of inf_181
instance : Sca Try.prog 181 := ⟨_, Try.underlying181, rfl⟩
-- 182: func(api.Seen) bool
theorem inf_182 : (Try.prog.info? 182).map (fun i => (i.zero, i.size, i.bytes)) = some (some (.nilFunc), 1, 8) := by kernel_rfl
instance : Siz Try.prog 182 1 := siz_of inf_182
instance : Byt Try.prog 182 8 := byt_of inf_182
instance : Zer Try.prog 182 (.nilFunc) := zer_of inf_182
instance : Sca Try.prog 182 := ⟨_, Try.underlying182, rfl⟩
-- 183: *api.Field
theorem inf_183 : (Try.prog.info? 183).map (fun i => (i.zero, i.size, i.bytes)) = some (some (.pointer none), 1, 8) := by kernel_rfl
instance : Siz Try.prog 183 1 := siz_of inf_183
instance : Byt Try.prog 183 8 := byt_of inf_183
instance : Zer Try.prog 183 (.pointer none) := zer_of inf_183
instance : Sca Try.prog 183 := ⟨_, Try.underlying183, rfl⟩
instance : IsPtr Try.prog 183 118 := ⟨Try.underlying183⟩
-- 191: uint32
theorem inf_191 : (Try.prog.info? 191).map (fun i => (i.zero, i.size, i.bytes)) = some (some (.int .u32 0), 1, 4) := by kernel_rfl
instance : Siz Try.prog 191 1 := siz_of inf_191
instance : Byt Try.prog 191 4 := byt_of inf_191
instance : Zer Try.prog 191 (.int .u32 0) := zer_of inf_191
instance : Sca Try.prog 191 := ⟨_, Try.underlying191, rfl⟩
instance : IsInt Try.prog 191 .u32 := ⟨Try.underlying191⟩
-- 199: struct { Service int; Type string; Field string }
theorem inf_199 : (Try.prog.info? 199).map (fun i => (i.zero, i.size, i.bytes)) = some (some (.agg #[(.int .i64 0), (.string ⟨#[]⟩), (.string ⟨#[]⟩)]), 3, 40) := by kernel_rfl
instance : Siz Try.prog 199 3 := siz_of inf_199
instance : Byt Try.prog 199 40 := byt_of inf_199
instance : Zer Try.prog 199 (.agg #[(.int .i64 0), (.string ⟨#[]⟩), (.string ⟨#[]⟩)]) := zer_of inf_199
instance : Stc Try.prog 199 := ⟨_, Try.underlying199⟩
instance : Fo Try.prog 199 0 0 3 := ⟨_, _, Try.underlying199, rfl, rfl, rfl, by kernel_rfl, by kernel_rfl⟩
instance : Fo Try.prog 199 1 1 9 := ⟨_, _, Try.underlying199, rfl, rfl, rfl, by kernel_rfl, by kernel_rfl⟩
instance : Fo Try.prog 199 2 2 9 := ⟨_, _, Try.underlying199, rfl, rfl, rfl, by kernel_rfl, by kernel_rfl⟩
-- 200: api.Owner
theorem inf_200 : (Try.prog.info? 200).map (fun i => (i.zero, i.size, i.bytes)) = some (some (.agg #[(.int .i64 0), (.string ⟨#[]⟩), (.string ⟨#[]⟩)]), 3, 40) := by kernel_rfl
instance : Siz Try.prog 200 3 := siz_of inf_200
instance : Byt Try.prog 200 40 := byt_of inf_200
instance : Zer Try.prog 200 (.agg #[(.int .i64 0), (.string ⟨#[]⟩), (.string ⟨#[]⟩)]) := zer_of inf_200
instance : Stc Try.prog 200 := ⟨_, Try.underlying200⟩
instance : Fo Try.prog 200 0 0 3 := ⟨_, _, Try.underlying200, rfl, rfl, rfl, by kernel_rfl, by kernel_rfl⟩
instance : Fo Try.prog 200 1 1 9 := ⟨_, _, Try.underlying200, rfl, rfl, rfl, by kernel_rfl, by kernel_rfl⟩
instance : Fo Try.prog 200 2 2 9 := ⟨_, _, Try.underlying200, rfl, rfl, rfl, by kernel_rfl, by kernel_rfl⟩
instance : Fun Try.prog 3 := ⟨_, Try.func3, by kernel_rfl, rfl⟩ -- stitchery/stitchlaw5.ServeTells
instance : Fun Try.prog 4 := ⟨_, Try.func4, by kernel_rfl, rfl⟩ -- stitchery/stitchlaw5.ServeParts
instance : Fun Try.prog 5 := ⟨_, Try.func5, by kernel_rfl, rfl⟩ -- stitchery/stitchlaw4.QueryChecks
instance : Fun Try.prog 6 := ⟨_, Try.func6, by kernel_rfl, rfl⟩ -- stitchery/stitchlaw1.SchemaTells
instance : Fun Try.prog 7 := ⟨_, Try.func7, by kernel_rfl, rfl⟩ -- stitchery/stitchlaw1.SchemaFirst
instance : Fun Try.prog 8 := ⟨_, Try.func8, by kernel_rfl, rfl⟩ -- stitchery/stitchlaw1.SchemaMore
instance : Fun Try.prog 9 := ⟨_, Try.func9, by kernel_rfl, rfl⟩ -- stitchery/stitchlaw2.ChangeTells
instance : Fun Try.prog 10 := ⟨_, Try.func10, by kernel_rfl, rfl⟩ -- stitchery/stitchlaw2.ChangeRight
instance : Fun Try.prog 11 := ⟨_, Try.func11, by kernel_rfl, rfl⟩ -- stitchery/stitchtop.Names
instance : Fun Try.prog 12 := ⟨_, Try.func12, by kernel_rfl, rfl⟩ -- stitchery/stitchlaw2.ChangeParts
instance : Fun Try.prog 13 := ⟨_, Try.func13, by kernel_rfl, rfl⟩ -- stitchery/stitchlaw2.ChangeBack
instance : Fun Try.prog 14 := ⟨_, Try.func14, by kernel_rfl, rfl⟩ -- stitchery/stitchlaw4.QueryTells
instance : Fun Try.prog 15 := ⟨_, Try.func15, by kernel_rfl, rfl⟩ -- stitchery/serve.Answer
instance : Fun Try.prog 16 := ⟨_, Try.func16, by kernel_rfl, rfl⟩ -- stitchery/stitchref4.Answer
instance : Fun Try.prog 17 := ⟨_, Try.func17, by kernel_rfl, rfl⟩ -- stitchery/serve.Wrong
instance : Fun Try.prog 18 := ⟨_, Try.func18, by kernel_rfl, rfl⟩ -- stitchery/stitchref4.WrongRequest
instance : Fun Try.prog 19 := ⟨_, Try.func19, by kernel_rfl, rfl⟩ -- stitchery/stitchref4.SameReply
instance : Fun Try.prog 20 := ⟨_, Try.func20, by kernel_rfl, rfl⟩ -- stitchery/stitchlaw5.alive
instance : Fun Try.prog 21 := ⟨_, Try.func21, by kernel_rfl, rfl⟩ -- stitchery/query.Check
instance : Fun Try.prog 22 := ⟨_, Try.func22, by kernel_rfl, rfl⟩ -- stitchery/stitchref4.Check
instance : Fun Try.prog 23 := ⟨_, Try.func23, by kernel_rfl, rfl⟩ -- stitchery/schema.Named
instance : Fun Try.prog 24 := ⟨_, Try.func24, by kernel_rfl, rfl⟩ -- stitchery/stitchref1.Named
instance : Fun Try.prog 25 := ⟨_, Try.func25, by kernel_rfl, rfl⟩ -- stitchery/schema.Find
instance : Fun Try.prog 26 := ⟨_, Try.func26, by kernel_rfl, rfl⟩ -- stitchery/stitchref1.Type
instance : Fun Try.prog 27 := ⟨_, Try.func27, by kernel_rfl, rfl⟩ -- stitchery/schema.Wrong
instance : Fun Try.prog 28 := ⟨_, Try.func28, by kernel_rfl, rfl⟩ -- stitchery/stitchref1.Wrong
instance : Fun Try.prog 29 := ⟨_, Try.func29, by kernel_rfl, rfl⟩ -- stitchery/schema.Field
instance : Fun Try.prog 30 := ⟨_, Try.func30, by kernel_rfl, rfl⟩ -- stitchery/stitchref1.At
instance : Fun Try.prog 31 := ⟨_, Try.func31, by kernel_rfl, rfl⟩ -- stitchery/schema.Things
instance : Fun Try.prog 32 := ⟨_, Try.func32, by kernel_rfl, rfl⟩ -- stitchery/stitchref1.WrongThings
instance : Fun Try.prog 33 := ⟨_, Try.func33, by kernel_rfl, rfl⟩ -- stitchery/stitchlaw1.alive
instance : Fun Try.prog 34 := ⟨_, Try.func34, by kernel_rfl, rfl⟩ -- stitchery/change.See
instance : Fun Try.prog 35 := ⟨_, Try.func35, by kernel_rfl, rfl⟩ -- stitchery/stitchref1.See
instance : Fun Try.prog 36 := ⟨_, Try.func36, by kernel_rfl, rfl⟩ -- (*stitchery/stitchref1.Seen).Types
instance : Fun Try.prog 37 := ⟨_, Try.func37, by kernel_rfl, rfl⟩ -- stitchery/stitchref1.SameTypes
instance : Fun Try.prog 38 := ⟨_, Try.func38, by kernel_rfl, rfl⟩ -- stitchery/change.Types
instance : Fun Try.prog 39 := ⟨_, Try.func39, by kernel_rfl, rfl⟩ -- stitchery/stitchref1.SameTexts
instance : Fun Try.prog 40 := ⟨_, Try.func40, by kernel_rfl, rfl⟩ -- stitchery/stitchref1.SameType
instance : Fun Try.prog 41 := ⟨_, Try.func41, by kernel_rfl, rfl⟩ -- stitchery/stitchlaw2.alive
instance : Fun Try.prog 42 := ⟨_, Try.func42, by kernel_rfl, rfl⟩ -- stitchery/query.Parse
instance : Fun Try.prog 43 := ⟨_, Try.func43, by kernel_rfl, rfl⟩ -- stitchery/stitchref4.Parse
instance : Fun Try.prog 44 := ⟨_, Try.func44, by kernel_rfl, rfl⟩ -- stitchery/stitchref4.Same
instance : Fun Try.prog 45 := ⟨_, Try.func45, by kernel_rfl, rfl⟩ -- stitchery/query.Wrong
instance : Fun Try.prog 46 := ⟨_, Try.func46, by kernel_rfl, rfl⟩ -- stitchery/stitchref4.Wrong
instance : Fun Try.prog 47 := ⟨_, Try.func47, by kernel_rfl, rfl⟩ -- stitchery/query.Print
instance : Fun Try.prog 48 := ⟨_, Try.func48, by kernel_rfl, rfl⟩ -- stitchery/stitchref4.Print
instance : Fun Try.prog 49 := ⟨_, Try.func49, by kernel_rfl, rfl⟩ -- stitchery/query.Called
instance : Fun Try.prog 50 := ⟨_, Try.func50, by kernel_rfl, rfl⟩ -- stitchery/stitchref4.Called
instance : Fun Try.prog 51 := ⟨_, Try.func51, by kernel_rfl, rfl⟩ -- stitchery/serve.thing
instance : Fun Try.prog 52 := ⟨_, Try.func52, by kernel_rfl, rfl⟩ -- slices.Clone[[]string,string]
instance : Fun Try.prog 53 := ⟨_, Try.func53, by kernel_rfl, rfl⟩ -- stitchery/stitchref1.Thing
instance : Fun Try.prog 54 := ⟨_, Try.func54, by kernel_rfl, rfl⟩ -- slices.Contains[[]string,string]
instance : Fun Try.prog 55 := ⟨_, Try.func55, by kernel_rfl, rfl⟩ -- stitchery/stitchref1.Has
instance : Fun Try.prog 56 := ⟨_, Try.func56, by kernel_rfl, rfl⟩ -- stitchery/stitchlaw5.one
instance : Fun Try.prog 57 := ⟨_, Try.func57, by kernel_rfl, rfl⟩ -- stitchery/query.picks
instance : Fun Try.prog 58 := ⟨_, Try.func58, by kernel_rfl, rfl⟩ -- stitchery/stitchref4.Goes
instance : Fun Try.prog 59 := ⟨_, Try.func59, by kernel_rfl, rfl⟩ -- slices.IndexFunc[[]stitchery/api.Type,stitchery/api.Type]
instance : Fun Try.prog 60 := ⟨_, Try.func60, by kernel_rfl, rfl⟩ -- stitchery/schema.Find$1
instance : Fun Try.prog 61 := ⟨_, Try.func61, by kernel_rfl, rfl⟩ -- stitchery/schema.fields
instance : Fun Try.prog 62 := ⟨_, Try.func62, by kernel_rfl, rfl⟩ -- stitchery/stitchref1.Wrong$1
instance : Fun Try.prog 63 := ⟨_, Try.func63, by kernel_rfl, rfl⟩ -- slices.IndexFunc[[]stitchery/api.Field,stitchery/api.Field]
instance : Fun Try.prog 64 := ⟨_, Try.func64, by kernel_rfl, rfl⟩ -- stitchery/schema.Field$1
instance : Fun Try.prog 65 := ⟨_, Try.func65, by kernel_rfl, rfl⟩ -- slices.ContainsFunc[[]stitchery/api.Thing,stitchery/api.Thing]
instance : Fun Try.prog 66 := ⟨_, Try.func66, by kernel_rfl, rfl⟩ -- stitchery/schema.Things$1
instance : Fun Try.prog 67 := ⟨_, Try.func67, by kernel_rfl, rfl⟩ -- stitchery/schema.vals
instance : Fun Try.prog 68 := ⟨_, Try.func68, by kernel_rfl, rfl⟩ -- stitchery/stitchref1.WrongVals
instance : Fun Try.prog 69 := ⟨_, Try.func69, by kernel_rfl, rfl⟩ -- stitchery/stitchlaw1.user
instance : Fun Try.prog 70 := ⟨_, Try.func70, by kernel_rfl, rfl⟩ -- slices.Clone[[]stitchery/api.Field,stitchery/api.Field]
instance : Fun Try.prog 71 := ⟨_, Try.func71, by kernel_rfl, rfl⟩ -- (stitchery/change.view).do
instance : Fun Try.prog 72 := ⟨_, Try.func72, by kernel_rfl, rfl⟩ -- (*stitchery/stitchref1.Seen).Do
instance : Fun Try.prog 73 := ⟨_, Try.func73, by kernel_rfl, rfl⟩ -- stitchery/stitchref1.place
instance : Fun Try.prog 74 := ⟨_, Try.func74, by kernel_rfl, rfl⟩ -- stitchery/stitchlaw2.user
instance : Fun Try.prog 75 := ⟨_, Try.func75, by kernel_rfl, rfl⟩ -- stitchery/query.Parse$1
instance : Fun Try.prog 76 := ⟨_, Try.func76, by kernel_rfl, rfl⟩ -- (*stitchery/query.reader).name
instance : Fun Try.prog 77 := ⟨_, Try.func77, by kernel_rfl, rfl⟩ -- (*stitchery/query.reader).must
instance : Fun Try.prog 78 := ⟨_, Try.func78, by kernel_rfl, rfl⟩ -- (*stitchery/query.reader).list
instance : Fun Try.prog 79 := ⟨_, Try.func79, by kernel_rfl, rfl⟩ -- (*stitchery/query.reader).blank
instance : Fun Try.prog 80 := ⟨_, Try.func80, by kernel_rfl, rfl⟩ -- (*stitchery/query.reader).fail
instance : Fun Try.prog 81 := ⟨_, Try.func81, by kernel_rfl, rfl⟩ -- (*stitchery/stitchref4.Walk).name
instance : Fun Try.prog 82 := ⟨_, Try.func82, by kernel_rfl, rfl⟩ -- (*stitchery/stitchref4.Walk).need
instance : Fun Try.prog 83 := ⟨_, Try.func83, by kernel_rfl, rfl⟩ -- (*stitchery/stitchref4.Walk).ok
instance : Fun Try.prog 84 := ⟨_, Try.func84, by kernel_rfl, rfl⟩ -- (*stitchery/stitchref4.Walk).List
instance : Fun Try.prog 85 := ⟨_, Try.func85, by kernel_rfl, rfl⟩ -- (*stitchery/stitchref4.Walk).skip
instance : Fun Try.prog 86 := ⟨_, Try.func86, by kernel_rfl, rfl⟩ -- (*stitchery/stitchref4.Walk).stop
instance : Fun Try.prog 87 := ⟨_, Try.func87, by kernel_rfl, rfl⟩ -- stitchery/stitchref4.SamePicks
instance : Fun Try.prog 88 := ⟨_, Try.func88, by kernel_rfl, rfl⟩ -- stitchery/query.shape
instance : Fun Try.prog 89 := ⟨_, Try.func89, by kernel_rfl, rfl⟩ -- stitchery/stitchref4.Shape
instance : Fun Try.prog 90 := ⟨_, Try.func90, by kernel_rfl, rfl⟩ -- (*strings.Builder).WriteString
instance : Fun Try.prog 91 := ⟨_, Try.func91, by kernel_rfl, rfl⟩ -- stitchery/query.write
instance : Fun Try.prog 92 := ⟨_, Try.func92, by kernel_rfl, rfl⟩ -- (*strings.Builder).Len
instance : Fun Try.prog 93 := ⟨_, Try.func93, by kernel_rfl, rfl⟩ -- (*strings.Builder).String
instance : Fun Try.prog 94 := ⟨_, Try.func94, by kernel_rfl, rfl⟩ -- stitchery/stitchref4.Text
instance : Fun Try.prog 95 := ⟨_, Try.func95, by kernel_rfl, rfl⟩ -- slices.IndexFunc[[]stitchery/api.Thing,stitchery/api.Thing]
instance : Fun Try.prog 96 := ⟨_, Try.func96, by kernel_rfl, rfl⟩ -- stitchery/serve.thing$1
instance : Fun Try.prog 97 := ⟨_, Try.func97, by kernel_rfl, rfl⟩ -- slices.Index[[]string,string]
instance : Fun Try.prog 98 := ⟨_, Try.func98, by kernel_rfl, rfl⟩ -- stitchery/merge.Find
instance : Fun Try.prog 99 := ⟨_, Try.func99, by kernel_rfl, rfl⟩ -- slices.ContainsFunc[[]stitchery/api.Pick,stitchery/api.Pick]
instance : Fun Try.prog 100 := ⟨_, Try.func100, by kernel_rfl, rfl⟩ -- stitchery/query.picks$1
instance : Fun Try.prog 101 := ⟨_, Try.func101, by kernel_rfl, rfl⟩ -- stitchery/stitchref1.Part
instance : Fun Try.prog 102 := ⟨_, Try.func102, by kernel_rfl, rfl⟩ -- slices.ContainsFunc[[]string,string]
instance : Fun Try.prog 103 := ⟨_, Try.func103, by kernel_rfl, rfl⟩ -- stitchery/schema.vals$1
instance : Fun Try.prog 104 := ⟨_, Try.func104, by kernel_rfl, rfl⟩ -- (stitchery/change.view).find
instance : Fun Try.prog 105 := ⟨_, Try.func105, by kernel_rfl, rfl⟩ -- (stitchery/change.view).call
instance : Fun Try.prog 106 := ⟨_, Try.func106, by kernel_rfl, rfl⟩ -- slices.Delete[[]stitchery/api.Field,stitchery/api.Field]
instance : Fun Try.prog 107 := ⟨_, Try.func107, by kernel_rfl, rfl⟩ -- slices.Delete[[]string,string]
instance : Fun Try.prog 108 := ⟨_, Try.func108, by kernel_rfl, rfl⟩ -- (*stitchery/query.reader).eat
instance : Fun Try.prog 109 := ⟨_, Try.func109, by kernel_rfl, rfl⟩ -- (*stitchery/query.reader).pick
instance : Fun Try.prog 110 := ⟨_, Try.func110, by kernel_rfl, rfl⟩ -- (*stitchery/stitchref4.Walk).on
instance : Fun Try.prog 111 := ⟨_, Try.func111, by kernel_rfl, rfl⟩ -- (*strings.Builder).copyCheck
instance : Fun Try.prog 112 := ⟨_, Try.func112, by kernel_rfl, rfl⟩ -- (*strings.Builder).WriteByte
instance : Fun Try.prog 113 := ⟨_, Try.func113, by kernel_rfl, rfl⟩ -- slices.IndexFunc[[]stitchery/api.Part,stitchery/api.Part]
instance : Fun Try.prog 114 := ⟨_, Try.func114, by kernel_rfl, rfl⟩ -- stitchery/merge.Find$1
instance : Fun Try.prog 115 := ⟨_, Try.func115, by kernel_rfl, rfl⟩ -- slices.IndexFunc[[]stitchery/api.Pick,stitchery/api.Pick]
instance : Fun Try.prog 116 := ⟨_, Try.func116, by kernel_rfl, rfl⟩ -- slices.IndexFunc[[]string,string]
instance : Fun Try.prog 117 := ⟨_, Try.func117, by kernel_rfl, rfl⟩ -- slices.IndexFunc[stitchery/change.view,stitchery/api.Seen]
instance : Fun Try.prog 118 := ⟨_, Try.func118, by kernel_rfl, rfl⟩ -- (stitchery/change.view).find$1
theorem mixed : Try.prog.follows .mixedOrders = true := by kernel_rfl
end Go.Proofs.Ytgckpmcdlciibaa
