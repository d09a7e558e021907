/- The facts on the program's types and functions, off the translation, by program (wip/inst.py). -/
import Derived.Test.YtgckpmcdlciibabRows
import Derived.Test.YtgckpmcdlciibabZA
namespace Go.Proofs.Ytgckpmcdlciibab
theorem siz_of {P : Program} {t : TypeId} {z : Value} {k b : Nat} (h : (P.info? t).map (fun i => (i.zero, i.size, i.bytes)) = some (some z, k, b)) : Siz P t k := ⟨by
  cases hi : P.info? t with
  | none => rw [hi] at h; cases h
  | some i => rw [hi] at h; simp at h; exact ⟨i, rfl, h.2.1⟩⟩
theorem byt_of {P : Program} {t : TypeId} {z : Value} {k b : Nat} (h : (P.info? t).map (fun i => (i.zero, i.size, i.bytes)) = some (some z, k, b)) : Byt P t b := ⟨by
  cases hi : P.info? t with
  | none => rw [hi] at h; cases h
  | some i => rw [hi] at h; simp at h; exact ⟨i, rfl, h.2.2⟩⟩
theorem zer_of {P : Program} {t : TypeId} {z : Value} {k b : Nat} (h : (P.info? t).map (fun i => (i.zero, i.size, i.bytes)) = some (some z, k, b)) : Zer P t z := ⟨by
  cases hi : P.info? t with
  | none => rw [hi] at h; cases h
  | some i => rw [hi] at h; simp at h; exact ⟨i, rfl, h.1⟩⟩
-- 1: func()
theorem inf_3 : (Try.prog.info? 3).map (fun i => (i.zero, i.size, i.bytes)) = some (some (.int .i64 0), 1, 8) := by kernel_rfl
instance : Siz Try.prog 3 1 := siz_of inf_3
instance : Zer Try.prog 3 (.int .i64 0) := zer_of inf_3
instance : Sca Try.prog 3 := ⟨_, Try.underlying3, rfl⟩
theorem inf_5 : (Try.prog.info? 5).map (fun i => (i.zero, i.size, i.bytes)) = some (some (.int .u8 0), 1, 1) := by kernel_rfl
instance : Siz Try.prog 5 1 := siz_of inf_5
instance : Byt Try.prog 5 1 := byt_of inf_5
instance : Zer Try.prog 5 (.int .u8 0) := zer_of inf_5
theorem inf_9 : (Try.prog.info? 9).map (fun i => (i.zero, i.size, i.bytes)) = some (some (.string ⟨#[]⟩), 1, 16) := by kernel_rfl
instance : Siz Try.prog 9 1 := siz_of inf_9
instance : Sca Try.prog 9 := ⟨_, Try.underlying9, rfl⟩
instance : IsStr Try.prog 9 := ⟨Try.underlying9⟩
-- 19: maps.unhashableTypeError
instance : Sca Try.prog 26 := ⟨_, Try.underlying26, rfl⟩
theorem inf_35 : (Try.prog.info? 35).map (fun i => (i.zero, i.size, i.bytes)) = some (some (.slice none 0 0), 1, 24) := by kernel_rfl
instance : Siz Try.prog 35 1 := siz_of inf_35
instance : Sca Try.prog 35 := ⟨_, Try.underlying35, rfl⟩
instance : Sli Try.prog 35 102 := ⟨Try.underlying35⟩
-- 36: struct { Type string; Key string; Picks []api.Pick }
theorem inf_37 : (Try.prog.info? 37).map (fun i => (i.zero, i.size, i.bytes)) = some (some (.agg #[(.string ⟨#[]⟩), (.string ⟨#[]⟩), (.slice none 0 0)]), 3, 56) := by kernel_rfl
instance : Siz Try.prog 37 3 := siz_of inf_37
instance : Zer Try.prog 37 (.agg #[(.string ⟨#[]⟩), (.string ⟨#[]⟩), (.slice none 0 0)]) := zer_of inf_37
instance : Stc Try.prog 37 := ⟨_, Try.underlying37⟩
instance : Fo Try.prog 37 0 0 9 := ⟨_, _, Try.underlying37, rfl, rfl, rfl, by kernel_rfl, by kernel_rfl⟩
instance : Fo Try.prog 37 1 1 9 := ⟨_, _, Try.underlying37, rfl, rfl, rfl, by kernel_rfl, by kernel_rfl⟩
instance : Fo Try.prog 37 2 2 35 := ⟨_, _, Try.underlying37, rfl, rfl, rfl, by kernel_rfl, by kernel_rfl⟩
-- 39: func(api.Ask) (string, api.Errno)
theorem inf_41 : (Try.prog.info? 41).map (fun i => (i.zero, i.size, i.bytes)) = some (some (.agg #[(.int .i64 0), (.int .i64 0)]), 2, 16) := by kernel_rfl
instance : Siz Try.prog 41 2 := siz_of inf_41
instance : Zer Try.prog 41 (.agg #[(.int .i64 0), (.int .i64 0)]) := zer_of inf_41
instance : Stc Try.prog 41 := ⟨_, Try.underlying41⟩
instance : Fo Try.prog 41 0 0 26 := ⟨_, _, Try.underlying41, rfl, rfl, rfl, by kernel_rfl, by kernel_rfl⟩
instance : Sli Try.prog 47 83 := ⟨Try.underlying47⟩
-- 48: func([]api.Part, api.Ask) api.Errno
instance : Sli Try.prog 66 80 := ⟨Try.underlying66⟩
-- 67: []api.Change
instance : Sca Try.prog 78 := ⟨_, Try.underlying78, rfl⟩
instance : Sli Try.prog 78 86 := ⟨Try.underlying78⟩
-- 79: struct { Name string; Fields []api.Field }
theorem inf_80 : (Try.prog.info? 80).map (fun i => (i.zero, i.size, i.bytes)) = some (some (.agg #[(.string ⟨#[]⟩), (.slice none 0 0)]), 2, 40) := by kernel_rfl
instance : Siz Try.prog 80 2 := siz_of inf_80
instance : Zer Try.prog 80 (.agg #[(.string ⟨#[]⟩), (.slice none 0 0)]) := zer_of inf_80
instance : Stc Try.prog 80 := ⟨_, Try.underlying80⟩
instance : Fo Try.prog 80 0 0 9 := ⟨_, _, Try.underlying80, rfl, rfl, rfl, by kernel_rfl, by kernel_rfl⟩
instance : Fo Try.prog 80 1 1 78 := ⟨_, _, Try.underlying80, rfl, rfl, rfl, by kernel_rfl, by kernel_rfl⟩
-- 81: []api.Owner
theorem inf_83 : (Try.prog.info? 83).map (fun i => (i.zero, i.size, i.bytes)) = some (some (.agg #[(.string ⟨#[]⟩), (.slice none 0 0), (.slice none 0 0), (.slice none 0 0)]), 4, 88) := by kernel_rfl
instance : Siz Try.prog 83 4 := siz_of inf_83
instance : Stc Try.prog 83 := ⟨_, Try.underlying83⟩
instance : Fo Try.prog 83 0 0 80 := ⟨_, _, Try.underlying83, rfl, rfl, rfl, by kernel_rfl, by kernel_rfl⟩
theorem inf_86 : (Try.prog.info? 86).map (fun i => (i.zero, i.size, i.bytes)) = some (some (.agg #[(.string ⟨#[]⟩), (.int .i64 0), (.string ⟨#[]⟩)]), 3, 40) := by kernel_rfl
instance : Siz Try.prog 86 3 := siz_of inf_86
instance : Stc Try.prog 86 := ⟨_, Try.underlying86⟩
instance : Fo Try.prog 86 0 0 9 := ⟨_, _, Try.underlying86, rfl, rfl, rfl, by kernel_rfl, by kernel_rfl⟩
instance : Fo Try.prog 86 1 1 3 := ⟨_, _, Try.underlying86, rfl, rfl, rfl, by kernel_rfl, by kernel_rfl⟩
instance : Fo Try.prog 86 2 2 9 := ⟨_, _, Try.underlying86, rfl, rfl, rfl, by kernel_rfl, by kernel_rfl⟩
-- 87: func([]api.Field, string) int
theorem inf_102 : (Try.prog.info? 102).map (fun i => (i.zero, i.size, i.bytes)) = some (some (.agg #[(.string ⟨#[]⟩), (.string ⟨#[]⟩), (.slice none 0 0)]), 3, 56) := by kernel_rfl
instance : Siz Try.prog 102 3 := siz_of inf_102
instance : Byt Try.prog 102 56 := byt_of inf_102
instance : Zer Try.prog 102 (.agg #[(.string ⟨#[]⟩), (.string ⟨#[]⟩), (.slice none 0 0)]) := zer_of inf_102
instance : Stc Try.prog 102 := ⟨_, Try.underlying102⟩
instance : Fo Try.prog 102 0 0 9 := ⟨_, _, Try.underlying102, rfl, rfl, rfl, by kernel_rfl, by kernel_rfl⟩
instance : Fo Try.prog 102 1 1 9 := ⟨_, _, Try.underlying102, rfl, rfl, rfl, by kernel_rfl, by kernel_rfl⟩
instance : Fo Try.prog 102 2 2 35 := ⟨_, _, Try.underlying102, rfl, rfl, rfl, by kernel_rfl, by kernel_rfl⟩
-- 103: func([]api.Service, api.Ask, int, string) bool
theorem inf_105 : (Try.prog.info? 105).map (fun i => (i.zero, i.size, i.bytes)) = some (some (.slice none 0 0), 1, 24) := by kernel_rfl
instance : Siz Try.prog 105 1 := siz_of inf_105
instance : Sca Try.prog 105 := ⟨_, Try.underlying105, rfl⟩
instance : Sli Try.prog 105 5 := ⟨Try.underlying105⟩
-- 106: func([]api.Service, api.Ask) ([]api.Got, []api.Request, api.Errno)
theorem inf_111 : (Try.prog.info? 111).map (fun i => (i.zero, i.size, i.bytes)) = some (some (.pointer none), 1, 8) := by kernel_rfl
instance : Siz Try.prog 111 1 := siz_of inf_111
instance : Sca Try.prog 111 := ⟨_, Try.underlying111, rfl⟩
instance : IsPtr Try.prog 111 113 := ⟨Try.underlying111⟩
-- 112: struct { addr *strings.Builder; buf []uint8 }
theorem inf_113 : (Try.prog.info? 113).map (fun i => (i.zero, i.size, i.bytes)) = some (some (.agg #[(.pointer none), (.slice none 0 0)]), 2, 32) := by kernel_rfl
instance : Siz Try.prog 113 2 := siz_of inf_113
instance : Zer Try.prog 113 (.agg #[(.pointer none), (.slice none 0 0)]) := zer_of inf_113
instance : Fo Try.prog 113 0 0 111 := ⟨_, _, Try.underlying113, rfl, rfl, rfl, by kernel_rfl, by kernel_rfl⟩
instance : Fo Try.prog 113 1 1 105 := ⟨_, _, Try.underlying113, rfl, rfl, rfl, by kernel_rfl, by kernel_rfl⟩
-- 115: error
theorem inf_122 : (Try.prog.info? 122).map (fun i => (i.zero, i.size, i.bytes)) = some (some (.agg #[(.int .i64 0), (.int .i64 0)]), 2, 16) := by kernel_rfl
instance : Siz Try.prog 122 2 := siz_of inf_122
instance : Zer Try.prog 122 (.agg #[(.int .i64 0), (.int .i64 0)]) := zer_of inf_122
instance : Fo Try.prog 122 0 0 41 := ⟨_, _, Try.underlying122, rfl, rfl, rfl, by kernel_rfl, by kernel_rfl⟩
-- 123: *query.reader
instance : Fo Try.prog 125 0 0 9 := ⟨_, _, Try.underlying125, rfl, rfl, rfl, by kernel_rfl, by kernel_rfl⟩
instance : Fo Try.prog 125 1 1 3 := ⟨_, _, Try.underlying125, rfl, rfl, rfl, by kernel_rfl, by kernel_rfl⟩
instance : Fo Try.prog 125 2 2 3 := ⟨_, _, Try.underlying125, rfl, rfl, rfl, by kernel_rfl, by kernel_rfl⟩
-- 126: func(uint8)
instance : Fun Try.prog 19 := ⟨_, Try.func19, by kernel_rfl, rfl⟩ -- stitchery/stitchlaw4.alive
instance : Fun Try.prog 20 := ⟨_, Try.func20, by kernel_rfl, rfl⟩ -- stitchery/query.Print
instance : Fun Try.prog 21 := ⟨_, Try.func21, by kernel_rfl, rfl⟩ -- stitchery/query.Parse
instance : Fun Try.prog 23 := ⟨_, Try.func23, by kernel_rfl, rfl⟩ -- stitchery/query.Wrong
instance : Fun Try.prog 24 := ⟨_, Try.func24, by kernel_rfl, rfl⟩ -- stitchery/query.Check
instance : Fun Try.prog 32 := ⟨_, Try.func32, by kernel_rfl, rfl⟩ -- stitchery/merge.Find
instance : Fun Try.prog 35 := ⟨_, Try.func35, by kernel_rfl, rfl⟩ -- stitchery/schema.Field
instance : Fun Try.prog 44 := ⟨_, Try.func44, by kernel_rfl, rfl⟩ -- stitchery/query.Called
instance : Fun Try.prog 45 := ⟨_, Try.func45, by kernel_rfl, rfl⟩ -- (*strings.Builder).WriteString
instance : Fun Try.prog 46 := ⟨_, Try.func46, by kernel_rfl, rfl⟩ -- stitchery/query.write
instance : Fun Try.prog 47 := ⟨_, Try.func47, by kernel_rfl, rfl⟩ -- (*strings.Builder).Len
instance : Fun Try.prog 48 := ⟨_, Try.func48, by kernel_rfl, rfl⟩ -- (*strings.Builder).String
instance : Fun Try.prog 50 := ⟨_, Try.func50, by kernel_rfl, rfl⟩ -- (*stitchery/query.reader).name
instance : Fun Try.prog 51 := ⟨_, Try.func51, by kernel_rfl, rfl⟩ -- (*stitchery/query.reader).must
instance : Fun Try.prog 52 := ⟨_, Try.func52, by kernel_rfl, rfl⟩ -- (*stitchery/query.reader).list
instance : Fun Try.prog 53 := ⟨_, Try.func53, by kernel_rfl, rfl⟩ -- (*stitchery/query.reader).blank
instance : Fun Try.prog 54 := ⟨_, Try.func54, by kernel_rfl, rfl⟩ -- (*stitchery/query.reader).fail
instance : Fun Try.prog 56 := ⟨_, Try.func56, by kernel_rfl, rfl⟩ -- stitchery/schema.Named
instance : Fun Try.prog 57 := ⟨_, Try.func57, by kernel_rfl, rfl⟩ -- stitchery/query.shape
instance : Fun Try.prog 58 := ⟨_, Try.func58, by kernel_rfl, rfl⟩ -- stitchery/query.picks
instance : Fun Try.prog 70 := ⟨_, Try.func70, by kernel_rfl, rfl⟩ -- slices.IndexFunc[[]stitchery/api.Part,stitchery/api.Part]
instance : Fun Try.prog 71 := ⟨_, Try.func71, by kernel_rfl, rfl⟩ -- stitchery/merge.Find$1
instance : Fun Try.prog 73 := ⟨_, Try.func73, by kernel_rfl, rfl⟩ -- slices.IndexFunc[[]stitchery/api.Field,stitchery/api.Field]
instance : Fun Try.prog 74 := ⟨_, Try.func74, by kernel_rfl, rfl⟩ -- stitchery/schema.Field$1
instance : Fun Try.prog 86 := ⟨_, Try.func86, by kernel_rfl, rfl⟩ -- (*strings.Builder).copyCheck
instance : Fun Try.prog 87 := ⟨_, Try.func87, by kernel_rfl, rfl⟩ -- (*strings.Builder).WriteByte
instance : Fun Try.prog 88 := ⟨_, Try.func88, by kernel_rfl, rfl⟩ -- (*stitchery/query.reader).eat
instance : Fun Try.prog 89 := ⟨_, Try.func89, by kernel_rfl, rfl⟩ -- (*stitchery/query.reader).pick
instance : Fun Try.prog 90 := ⟨_, Try.func90, by kernel_rfl, rfl⟩ -- slices.ContainsFunc[[]stitchery/api.Pick,stitchery/api.Pick]
instance : Fun Try.prog 91 := ⟨_, Try.func91, by kernel_rfl, rfl⟩ -- stitchery/query.picks$1
instance : Fun Try.prog 124 := ⟨_, Try.func124, by kernel_rfl, rfl⟩ -- slices.IndexFunc[[]stitchery/api.Pick,stitchery/api.Pick]
theorem mixed : Try.prog.follows .mixedOrders = true := by kernel_rfl
end Go.Proofs.Ytgckpmcdlciibab
