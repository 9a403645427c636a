/- What the program says of its types and functions, as instances. No condition. -/
import Derived.Test.YtjgobljclodpfaaE
import Derived.Test.YtjgobljclodpfaaChecked
namespace Go.Proofs.Ytjgobljclodpfaa
open Go.RowKit E
set_option linter.unusedVariables false
set_option maxRecDepth 100000

instance : Sc Try.prog 0 := ⟨⟨_, Try.underlying0, rfl⟩⟩
theorem siz0 : (Try.prog.info? 0).map (·.size) = some 1 := by kernel_rfl
instance : Siz Try.prog 0 1 := ⟨siz0⟩
instance : Sc Try.prog 1 := ⟨⟨_, Try.underlying1, rfl⟩⟩
theorem siz1 : (Try.prog.info? 1).map (·.size) = some 1 := by kernel_rfl
instance : Siz Try.prog 1 1 := ⟨siz1⟩
instance : Zer Try.prog 1 #[.nilFunc] := zer_of (v := .nilFunc) (by kernel_rfl) rfl
instance : Und Try.prog 2 (.int .i64) := ⟨Try.underlying2⟩
instance : Sc Try.prog 2 := ⟨⟨_, Try.underlying2, rfl⟩⟩
theorem siz2 : (Try.prog.info? 2).map (·.size) = some 1 := by kernel_rfl
instance : Siz Try.prog 2 1 := ⟨siz2⟩
instance : Zer Try.prog 2 #[(.int .i64 0)] := zer_of (v := (.int .i64 0)) (by kernel_rfl) rfl
instance : Und Try.prog 3 (.int .i64) := ⟨Try.underlying3⟩
instance : Sc Try.prog 3 := ⟨⟨_, Try.underlying3, rfl⟩⟩
theorem siz3 : (Try.prog.info? 3).map (·.size) = some 1 := by kernel_rfl
instance : Siz Try.prog 3 1 := ⟨siz3⟩
instance : Zer Try.prog 3 #[(.int .i64 0)] := zer_of (v := (.int .i64 0)) (by kernel_rfl) rfl
instance : Und Try.prog 4 (.bool) := ⟨Try.underlying4⟩
instance : Sc Try.prog 4 := ⟨⟨_, Try.underlying4, rfl⟩⟩
theorem siz4 : (Try.prog.info? 4).map (·.size) = some 1 := by kernel_rfl
instance : Siz Try.prog 4 1 := ⟨siz4⟩
instance : Zer Try.prog 4 #[(.bool false)] := zer_of (v := (.bool false)) (by kernel_rfl) rfl
instance : Und Try.prog 5 (.int .u8) := ⟨Try.underlying5⟩
instance : Sc Try.prog 5 := ⟨⟨_, Try.underlying5, rfl⟩⟩
theorem siz5 : (Try.prog.info? 5).map (·.size) = some 1 := by kernel_rfl
instance : Siz Try.prog 5 1 := ⟨siz5⟩
instance : Zer Try.prog 5 #[(.int .u8 0)] := zer_of (v := (.int .u8 0)) (by kernel_rfl) rfl
instance : Und Try.prog 6 (.int .u8) := ⟨Try.underlying6⟩
instance : Sc Try.prog 6 := ⟨⟨_, Try.underlying6, rfl⟩⟩
theorem siz6 : (Try.prog.info? 6).map (·.size) = some 1 := by kernel_rfl
instance : Siz Try.prog 6 1 := ⟨siz6⟩
instance : Zer Try.prog 6 #[(.int .u8 0)] := zer_of (v := (.int .u8 0)) (by kernel_rfl) rfl
instance : Rw Try.prog 7 := ⟨⟨_, Try.underlying7, rfl⟩⟩
theorem siz7 : (Try.prog.info? 7).map (·.size) = some 4 := by kernel_rfl
instance : Siz Try.prog 7 4 := ⟨siz7⟩
instance : Zer Try.prog 7 #[(.int .i64 0), (.int .i64 0), (.bool false), (.int .u8 0)] := zer_of (v := .agg #[(.int .i64 0), (.int .i64 0), (.bool false), (.int .u8 0)]) (by kernel_rfl) rfl
instance : Fld Try.prog 7 0 0 := fld_of Try.underlying7 rfl rfl siz2
instance : Fld Try.prog 7 1 1 := fld_of Try.underlying7 rfl rfl siz3
instance : Fld Try.prog 7 2 2 := fld_of Try.underlying7 rfl rfl siz4
instance : Fld Try.prog 7 3 3 := fld_of Try.underlying7 rfl rfl siz6
instance : Rw Try.prog 8 := ⟨⟨_, Try.underlying8, rfl⟩⟩
theorem siz8 : (Try.prog.info? 8).map (·.size) = some 4 := by kernel_rfl
instance : Siz Try.prog 8 4 := ⟨siz8⟩
instance : Zer Try.prog 8 #[(.int .i64 0), (.int .i64 0), (.bool false), (.int .u8 0)] := zer_of (v := .agg #[(.int .i64 0), (.int .i64 0), (.bool false), (.int .u8 0)]) (by kernel_rfl) rfl
instance : Fld Try.prog 8 0 0 := fld_of Try.underlying8 rfl rfl siz2
instance : Fld Try.prog 8 1 1 := fld_of Try.underlying8 rfl rfl siz3
instance : Fld Try.prog 8 2 2 := fld_of Try.underlying8 rfl rfl siz4
instance : Fld Try.prog 8 3 3 := fld_of Try.underlying8 rfl rfl siz6
instance : Und Try.prog 9 (.string) := ⟨Try.underlying9⟩
instance : Sc Try.prog 9 := ⟨⟨_, Try.underlying9, rfl⟩⟩
theorem siz9 : (Try.prog.info? 9).map (·.size) = some 1 := by kernel_rfl
instance : Siz Try.prog 9 1 := ⟨siz9⟩
instance : Zer Try.prog 9 #[(.string ByteArray.empty)] := zer_of (v := (.string ByteArray.empty)) (by kernel_rfl) rfl
instance : Und Try.prog 10 (.string) := ⟨Try.underlying10⟩
instance : Sc Try.prog 10 := ⟨⟨_, Try.underlying10, rfl⟩⟩
theorem siz10 : (Try.prog.info? 10).map (·.size) = some 1 := by kernel_rfl
instance : Siz Try.prog 10 1 := ⟨siz10⟩
instance : Zer Try.prog 10 #[(.string ByteArray.empty)] := zer_of (v := (.string ByteArray.empty)) (by kernel_rfl) rfl
instance : Und Try.prog 11 (.string) := ⟨Try.underlying11⟩
instance : Sc Try.prog 11 := ⟨⟨_, Try.underlying11, rfl⟩⟩
theorem siz11 : (Try.prog.info? 11).map (·.size) = some 1 := by kernel_rfl
instance : Siz Try.prog 11 1 := ⟨siz11⟩
instance : Zer Try.prog 11 #[(.string ByteArray.empty)] := zer_of (v := (.string ByteArray.empty)) (by kernel_rfl) rfl
instance : Und Try.prog 12 (.int .u64) := ⟨Try.underlying12⟩
instance : Sc Try.prog 12 := ⟨⟨_, Try.underlying12, rfl⟩⟩
theorem siz12 : (Try.prog.info? 12).map (·.size) = some 1 := by kernel_rfl
instance : Siz Try.prog 12 1 := ⟨siz12⟩
instance : Zer Try.prog 12 #[(.int .u64 0)] := zer_of (v := (.int .u64 0)) (by kernel_rfl) rfl
instance : Rw Try.prog 13 := ⟨⟨_, Try.underlying13, rfl⟩⟩
theorem siz13 : (Try.prog.info? 13).map (·.size) = some 2 := by kernel_rfl
instance : Siz Try.prog 13 2 := ⟨siz13⟩
instance : Zer Try.prog 13 #[(.string ByteArray.empty), (.int .u64 0)] := zer_of (v := .agg #[(.string ByteArray.empty), (.int .u64 0)]) (by kernel_rfl) rfl
instance : Fld Try.prog 13 0 0 := fld_of Try.underlying13 rfl rfl siz9
instance : Fld Try.prog 13 1 1 := fld_of Try.underlying13 rfl rfl siz12
instance : Rw Try.prog 14 := ⟨⟨_, Try.underlying14, rfl⟩⟩
theorem siz14 : (Try.prog.info? 14).map (·.size) = some 2 := by kernel_rfl
instance : Siz Try.prog 14 2 := ⟨siz14⟩
instance : Zer Try.prog 14 #[(.string ByteArray.empty), (.int .u64 0)] := zer_of (v := .agg #[(.string ByteArray.empty), (.int .u64 0)]) (by kernel_rfl) rfl
instance : Fld Try.prog 14 0 0 := fld_of Try.underlying14 rfl rfl siz9
instance : Fld Try.prog 14 1 1 := fld_of Try.underlying14 rfl rfl siz12
instance : Und Try.prog 15 (.pointer 111) := ⟨Try.underlying15⟩
instance : Sc Try.prog 15 := ⟨⟨_, Try.underlying15, rfl⟩⟩
theorem siz15 : (Try.prog.info? 15).map (·.size) = some 1 := by kernel_rfl
instance : Siz Try.prog 15 1 := ⟨siz15⟩
instance : Zer Try.prog 15 #[(.pointer none)] := zer_of (v := (.pointer none)) (by kernel_rfl) rfl
instance : Und Try.prog 16 (.pointer 114) := ⟨Try.underlying16⟩
instance : Sc Try.prog 16 := ⟨⟨_, Try.underlying16, rfl⟩⟩
theorem siz16 : (Try.prog.info? 16).map (·.size) = some 1 := by kernel_rfl
instance : Siz Try.prog 16 1 := ⟨siz16⟩
instance : Zer Try.prog 16 #[(.pointer none)] := zer_of (v := (.pointer none)) (by kernel_rfl) rfl
instance : Und Try.prog 17 (.pointer 123) := ⟨Try.underlying17⟩
instance : Sc Try.prog 17 := ⟨⟨_, Try.underlying17, rfl⟩⟩
theorem siz17 : (Try.prog.info? 17).map (·.size) = some 1 := by kernel_rfl
instance : Siz Try.prog 17 1 := ⟨siz17⟩
instance : Zer Try.prog 17 #[(.pointer none)] := zer_of (v := (.pointer none)) (by kernel_rfl) rfl
instance : Rw Try.prog 18 := ⟨⟨_, Try.underlying18, rfl⟩⟩
theorem siz18 : (Try.prog.info? 18).map (·.size) = some 1 := by kernel_rfl
instance : Siz Try.prog 18 1 := ⟨siz18⟩
instance : Zer Try.prog 18 #[(.pointer none)] := zer_of (v := .agg #[(.pointer none)]) (by kernel_rfl) rfl
instance : Fld Try.prog 18 0 0 := fld_of Try.underlying18 rfl rfl siz17
instance : Rw Try.prog 19 := ⟨⟨_, Try.underlying19, rfl⟩⟩
theorem siz19 : (Try.prog.info? 19).map (·.size) = some 1 := by kernel_rfl
instance : Siz Try.prog 19 1 := ⟨siz19⟩
instance : Zer Try.prog 19 #[(.pointer none)] := zer_of (v := .agg #[(.pointer none)]) (by kernel_rfl) rfl
instance : Fld Try.prog 19 0 0 := fld_of Try.underlying19 rfl rfl siz17
instance : Sc Try.prog 20 := ⟨⟨_, Try.underlying20, rfl⟩⟩
theorem siz20 : (Try.prog.info? 20).map (·.size) = some 1 := by kernel_rfl
instance : Siz Try.prog 20 1 := ⟨siz20⟩
instance : Zer Try.prog 20 #[.nilIface] := zer_of (v := .nilIface) (by kernel_rfl) rfl
instance : Und Try.prog 21 (.int .i32) := ⟨Try.underlying21⟩
instance : Sc Try.prog 21 := ⟨⟨_, Try.underlying21, rfl⟩⟩
theorem siz21 : (Try.prog.info? 21).map (·.size) = some 1 := by kernel_rfl
instance : Siz Try.prog 21 1 := ⟨siz21⟩
instance : Zer Try.prog 21 #[(.int .i32 0)] := zer_of (v := (.int .i32 0)) (by kernel_rfl) rfl
instance : Und Try.prog 22 (.slice 40) := ⟨Try.underlying22⟩
instance : Sc Try.prog 22 := ⟨⟨_, Try.underlying22, rfl⟩⟩
theorem siz22 : (Try.prog.info? 22).map (·.size) = some 1 := by kernel_rfl
instance : Siz Try.prog 22 1 := ⟨siz22⟩
instance : Zer Try.prog 22 #[(.slice none 0 0)] := zer_of (v := (.slice none 0 0)) (by kernel_rfl) rfl
instance : Rw Try.prog 23 := ⟨⟨_, Try.underlying23, rfl⟩⟩
theorem siz23 : (Try.prog.info? 23).map (·.size) = some 1 := by kernel_rfl
instance : Siz Try.prog 23 1 := ⟨siz23⟩
instance : Zer Try.prog 23 #[(.slice none 0 0)] := zer_of (v := .agg #[(.slice none 0 0)]) (by kernel_rfl) rfl
instance : Fld Try.prog 23 0 0 := fld_of Try.underlying23 rfl rfl siz22
instance : Rw Try.prog 24 := ⟨⟨_, Try.underlying24, rfl⟩⟩
theorem siz24 : (Try.prog.info? 24).map (·.size) = some 1 := by kernel_rfl
instance : Siz Try.prog 24 1 := ⟨siz24⟩
instance : Zer Try.prog 24 #[(.slice none 0 0)] := zer_of (v := .agg #[(.slice none 0 0)]) (by kernel_rfl) rfl
instance : Fld Try.prog 24 0 0 := fld_of Try.underlying24 rfl rfl siz22
instance : Und Try.prog 25 (.slice 37) := ⟨Try.underlying25⟩
instance : Sc Try.prog 25 := ⟨⟨_, Try.underlying25, rfl⟩⟩
theorem siz25 : (Try.prog.info? 25).map (·.size) = some 1 := by kernel_rfl
instance : Siz Try.prog 25 1 := ⟨siz25⟩
instance : Zer Try.prog 25 #[(.slice none 0 0)] := zer_of (v := (.slice none 0 0)) (by kernel_rfl) rfl
instance : Sc Try.prog 26 := ⟨⟨_, Try.underlying26, rfl⟩⟩
theorem siz26 : (Try.prog.info? 26).map (·.size) = some 1 := by kernel_rfl
instance : Siz Try.prog 26 1 := ⟨siz26⟩
instance : Zer Try.prog 26 #[.nilFunc] := zer_of (v := .nilFunc) (by kernel_rfl) rfl
instance : Sc Try.prog 27 := ⟨⟨_, Try.underlying27, rfl⟩⟩
theorem siz27 : (Try.prog.info? 27).map (·.size) = some 1 := by kernel_rfl
instance : Siz Try.prog 27 1 := ⟨siz27⟩
instance : Zer Try.prog 27 #[.nilFunc] := zer_of (v := .nilFunc) (by kernel_rfl) rfl
instance : Und Try.prog 28 (.int .i64) := ⟨Try.underlying28⟩
instance : Sc Try.prog 28 := ⟨⟨_, Try.underlying28, rfl⟩⟩
theorem siz28 : (Try.prog.info? 28).map (·.size) = some 1 := by kernel_rfl
instance : Siz Try.prog 28 1 := ⟨siz28⟩
instance : Zer Try.prog 28 #[(.int .i64 0)] := zer_of (v := (.int .i64 0)) (by kernel_rfl) rfl
instance : Sc Try.prog 29 := ⟨⟨_, Try.underlying29, rfl⟩⟩
theorem siz29 : (Try.prog.info? 29).map (·.size) = some 1 := by kernel_rfl
instance : Siz Try.prog 29 1 := ⟨siz29⟩
instance : Sc Try.prog 30 := ⟨⟨_, Try.underlying30, rfl⟩⟩
theorem siz30 : (Try.prog.info? 30).map (·.size) = some 1 := by kernel_rfl
instance : Siz Try.prog 30 1 := ⟨siz30⟩
instance : Zer Try.prog 30 #[.nilFunc] := zer_of (v := .nilFunc) (by kernel_rfl) rfl
instance : Sc Try.prog 31 := ⟨⟨_, Try.underlying31, rfl⟩⟩
theorem siz31 : (Try.prog.info? 31).map (·.size) = some 1 := by kernel_rfl
instance : Siz Try.prog 31 1 := ⟨siz31⟩
instance : Zer Try.prog 31 #[.nilFunc] := zer_of (v := .nilFunc) (by kernel_rfl) rfl
instance : Sc Try.prog 32 := ⟨⟨_, Try.underlying32, rfl⟩⟩
theorem siz32 : (Try.prog.info? 32).map (·.size) = some 1 := by kernel_rfl
instance : Siz Try.prog 32 1 := ⟨siz32⟩
instance : Zer Try.prog 32 #[.nilFunc] := zer_of (v := .nilFunc) (by kernel_rfl) rfl
instance : Sc Try.prog 33 := ⟨⟨_, Try.underlying33, rfl⟩⟩
theorem siz33 : (Try.prog.info? 33).map (·.size) = some 1 := by kernel_rfl
instance : Siz Try.prog 33 1 := ⟨siz33⟩
instance : Zer Try.prog 33 #[.nilFunc] := zer_of (v := .nilFunc) (by kernel_rfl) rfl
instance : Sc Try.prog 34 := ⟨⟨_, Try.underlying34, rfl⟩⟩
theorem siz34 : (Try.prog.info? 34).map (·.size) = some 1 := by kernel_rfl
instance : Siz Try.prog 34 1 := ⟨siz34⟩
instance : Zer Try.prog 34 #[.nilFunc] := zer_of (v := .nilFunc) (by kernel_rfl) rfl
instance : Und Try.prog 35 (.slice 5) := ⟨Try.underlying35⟩
instance : Sc Try.prog 35 := ⟨⟨_, Try.underlying35, rfl⟩⟩
theorem siz35 : (Try.prog.info? 35).map (·.size) = some 1 := by kernel_rfl
instance : Siz Try.prog 35 1 := ⟨siz35⟩
instance : Zer Try.prog 35 #[(.slice none 0 0)] := zer_of (v := (.slice none 0 0)) (by kernel_rfl) rfl
instance : Rw Try.prog 36 := ⟨⟨_, Try.underlying36, rfl⟩⟩
theorem siz36 : (Try.prog.info? 36).map (·.size) = some 5 := by kernel_rfl
instance : Siz Try.prog 36 5 := ⟨siz36⟩
instance : Zer Try.prog 36 #[(.int .i64 0), (.string ByteArray.empty), (.string ByteArray.empty), (.int .i64 0), (.slice none 0 0)] := zer_of (v := .agg #[(.int .i64 0), (.string ByteArray.empty), (.string ByteArray.empty), (.int .i64 0), (.slice none 0 0)]) (by kernel_rfl) rfl
instance : Fld Try.prog 36 0 0 := fld_of Try.underlying36 rfl rfl siz3
instance : Fld Try.prog 36 1 1 := fld_of Try.underlying36 rfl rfl siz9
instance : Fld Try.prog 36 2 2 := fld_of Try.underlying36 rfl rfl siz9
instance : Fld Try.prog 36 3 3 := fld_of Try.underlying36 rfl rfl siz3
instance : Fld Try.prog 36 4 4 := fld_of Try.underlying36 rfl rfl siz35
instance : Rw Try.prog 37 := ⟨⟨_, Try.underlying37, rfl⟩⟩
theorem siz37 : (Try.prog.info? 37).map (·.size) = some 5 := by kernel_rfl
instance : Siz Try.prog 37 5 := ⟨siz37⟩
instance : Zer Try.prog 37 #[(.int .i64 0), (.string ByteArray.empty), (.string ByteArray.empty), (.int .i64 0), (.slice none 0 0)] := zer_of (v := .agg #[(.int .i64 0), (.string ByteArray.empty), (.string ByteArray.empty), (.int .i64 0), (.slice none 0 0)]) (by kernel_rfl) rfl
instance : Fld Try.prog 37 0 0 := fld_of Try.underlying37 rfl rfl siz3
instance : Fld Try.prog 37 1 1 := fld_of Try.underlying37 rfl rfl siz9
instance : Fld Try.prog 37 2 2 := fld_of Try.underlying37 rfl rfl siz9
instance : Fld Try.prog 37 3 3 := fld_of Try.underlying37 rfl rfl siz3
instance : Fld Try.prog 37 4 4 := fld_of Try.underlying37 rfl rfl siz35
instance : Sc Try.prog 38 := ⟨⟨_, Try.underlying38, rfl⟩⟩
theorem siz38 : (Try.prog.info? 38).map (·.size) = some 1 := by kernel_rfl
instance : Siz Try.prog 38 1 := ⟨siz38⟩
instance : Zer Try.prog 38 #[.nilFunc] := zer_of (v := .nilFunc) (by kernel_rfl) rfl
instance : Rw Try.prog 39 := ⟨⟨_, Try.underlying39, rfl⟩⟩
theorem siz39 : (Try.prog.info? 39).map (·.size) = some 2 := by kernel_rfl
instance : Siz Try.prog 39 2 := ⟨siz39⟩
instance : Zer Try.prog 39 #[(.string ByteArray.empty), (.slice none 0 0)] := zer_of (v := .agg #[(.string ByteArray.empty), (.slice none 0 0)]) (by kernel_rfl) rfl
instance : Fld Try.prog 39 0 0 := fld_of Try.underlying39 rfl rfl siz9
instance : Fld Try.prog 39 1 1 := fld_of Try.underlying39 rfl rfl siz35
instance : Rw Try.prog 40 := ⟨⟨_, Try.underlying40, rfl⟩⟩
theorem siz40 : (Try.prog.info? 40).map (·.size) = some 2 := by kernel_rfl
instance : Siz Try.prog 40 2 := ⟨siz40⟩
instance : Zer Try.prog 40 #[(.string ByteArray.empty), (.slice none 0 0)] := zer_of (v := .agg #[(.string ByteArray.empty), (.slice none 0 0)]) (by kernel_rfl) rfl
instance : Fld Try.prog 40 0 0 := fld_of Try.underlying40 rfl rfl siz9
instance : Fld Try.prog 40 1 1 := fld_of Try.underlying40 rfl rfl siz35
instance : Sc Try.prog 41 := ⟨⟨_, Try.underlying41, rfl⟩⟩
theorem siz41 : (Try.prog.info? 41).map (·.size) = some 1 := by kernel_rfl
instance : Siz Try.prog 41 1 := ⟨siz41⟩
instance : Sc Try.prog 42 := ⟨⟨_, Try.underlying42, rfl⟩⟩
theorem siz42 : (Try.prog.info? 42).map (·.size) = some 1 := by kernel_rfl
instance : Siz Try.prog 42 1 := ⟨siz42⟩
instance : Zer Try.prog 42 #[.nilFunc] := zer_of (v := .nilFunc) (by kernel_rfl) rfl
instance : Sc Try.prog 43 := ⟨⟨_, Try.underlying43, rfl⟩⟩
theorem siz43 : (Try.prog.info? 43).map (·.size) = some 1 := by kernel_rfl
instance : Siz Try.prog 43 1 := ⟨siz43⟩
instance : Zer Try.prog 43 #[.nilFunc] := zer_of (v := .nilFunc) (by kernel_rfl) rfl
instance : Sc Try.prog 44 := ⟨⟨_, Try.underlying44, rfl⟩⟩
theorem siz44 : (Try.prog.info? 44).map (·.size) = some 1 := by kernel_rfl
instance : Siz Try.prog 44 1 := ⟨siz44⟩
instance : Zer Try.prog 44 #[.nilFunc] := zer_of (v := .nilFunc) (by kernel_rfl) rfl
instance : Und Try.prog 45 (.slice 9) := ⟨Try.underlying45⟩
instance : Sc Try.prog 45 := ⟨⟨_, Try.underlying45, rfl⟩⟩
theorem siz45 : (Try.prog.info? 45).map (·.size) = some 1 := by kernel_rfl
instance : Siz Try.prog 45 1 := ⟨siz45⟩
instance : Zer Try.prog 45 #[(.slice none 0 0)] := zer_of (v := (.slice none 0 0)) (by kernel_rfl) rfl
instance : Sc Try.prog 46 := ⟨⟨_, Try.underlying46, rfl⟩⟩
theorem siz46 : (Try.prog.info? 46).map (·.size) = some 1 := by kernel_rfl
instance : Siz Try.prog 46 1 := ⟨siz46⟩
instance : Zer Try.prog 46 #[.nilFunc] := zer_of (v := .nilFunc) (by kernel_rfl) rfl
instance : Sc Try.prog 47 := ⟨⟨_, Try.underlying47, rfl⟩⟩
theorem siz47 : (Try.prog.info? 47).map (·.size) = some 1 := by kernel_rfl
instance : Siz Try.prog 47 1 := ⟨siz47⟩
instance : Zer Try.prog 47 #[.nilFunc] := zer_of (v := .nilFunc) (by kernel_rfl) rfl
instance : Sc Try.prog 48 := ⟨⟨_, Try.underlying48, rfl⟩⟩
theorem siz48 : (Try.prog.info? 48).map (·.size) = some 1 := by kernel_rfl
instance : Siz Try.prog 48 1 := ⟨siz48⟩
instance : Sc Try.prog 49 := ⟨⟨_, Try.underlying49, rfl⟩⟩
theorem siz49 : (Try.prog.info? 49).map (·.size) = some 1 := by kernel_rfl
instance : Siz Try.prog 49 1 := ⟨siz49⟩
instance : Zer Try.prog 49 #[.nilFunc] := zer_of (v := .nilFunc) (by kernel_rfl) rfl
instance : Sc Try.prog 50 := ⟨⟨_, Try.underlying50, rfl⟩⟩
theorem siz50 : (Try.prog.info? 50).map (·.size) = some 1 := by kernel_rfl
instance : Siz Try.prog 50 1 := ⟨siz50⟩
instance : Zer Try.prog 50 #[.nilFunc] := zer_of (v := .nilFunc) (by kernel_rfl) rfl
instance : Sc Try.prog 51 := ⟨⟨_, Try.underlying51, rfl⟩⟩
theorem siz51 : (Try.prog.info? 51).map (·.size) = some 1 := by kernel_rfl
instance : Siz Try.prog 51 1 := ⟨siz51⟩
instance : Zer Try.prog 51 #[.nilFunc] := zer_of (v := .nilFunc) (by kernel_rfl) rfl
instance : Sc Try.prog 52 := ⟨⟨_, Try.underlying52, rfl⟩⟩
theorem siz52 : (Try.prog.info? 52).map (·.size) = some 1 := by kernel_rfl
instance : Siz Try.prog 52 1 := ⟨siz52⟩
instance : Zer Try.prog 52 #[.nilFunc] := zer_of (v := .nilFunc) (by kernel_rfl) rfl
instance : Sc Try.prog 53 := ⟨⟨_, Try.underlying53, rfl⟩⟩
theorem siz53 : (Try.prog.info? 53).map (·.size) = some 1 := by kernel_rfl
instance : Siz Try.prog 53 1 := ⟨siz53⟩
instance : Zer Try.prog 53 #[.nilFunc] := zer_of (v := .nilFunc) (by kernel_rfl) rfl
instance : Sc Try.prog 54 := ⟨⟨_, Try.underlying54, rfl⟩⟩
theorem siz54 : (Try.prog.info? 54).map (·.size) = some 1 := by kernel_rfl
instance : Siz Try.prog 54 1 := ⟨siz54⟩
instance : Zer Try.prog 54 #[.nilFunc] := zer_of (v := .nilFunc) (by kernel_rfl) rfl
instance : Sc Try.prog 55 := ⟨⟨_, Try.underlying55, rfl⟩⟩
theorem siz55 : (Try.prog.info? 55).map (·.size) = some 1 := by kernel_rfl
instance : Siz Try.prog 55 1 := ⟨siz55⟩
instance : Zer Try.prog 55 #[.nilFunc] := zer_of (v := .nilFunc) (by kernel_rfl) rfl
instance : Sc Try.prog 56 := ⟨⟨_, Try.underlying56, rfl⟩⟩
theorem siz56 : (Try.prog.info? 56).map (·.size) = some 1 := by kernel_rfl
instance : Siz Try.prog 56 1 := ⟨siz56⟩
instance : Zer Try.prog 56 #[.nilFunc] := zer_of (v := .nilFunc) (by kernel_rfl) rfl
instance : Sc Try.prog 57 := ⟨⟨_, Try.underlying57, rfl⟩⟩
theorem siz57 : (Try.prog.info? 57).map (·.size) = some 1 := by kernel_rfl
instance : Siz Try.prog 57 1 := ⟨siz57⟩
instance : Zer Try.prog 57 #[.nilFunc] := zer_of (v := .nilFunc) (by kernel_rfl) rfl
instance : Sc Try.prog 58 := ⟨⟨_, Try.underlying58, rfl⟩⟩
theorem siz58 : (Try.prog.info? 58).map (·.size) = some 1 := by kernel_rfl
instance : Siz Try.prog 58 1 := ⟨siz58⟩
instance : Sc Try.prog 59 := ⟨⟨_, Try.underlying59, rfl⟩⟩
theorem siz59 : (Try.prog.info? 59).map (·.size) = some 1 := by kernel_rfl
instance : Siz Try.prog 59 1 := ⟨siz59⟩
instance : Zer Try.prog 59 #[.nilFunc] := zer_of (v := .nilFunc) (by kernel_rfl) rfl
instance : Sc Try.prog 60 := ⟨⟨_, Try.underlying60, rfl⟩⟩
theorem siz60 : (Try.prog.info? 60).map (·.size) = some 1 := by kernel_rfl
instance : Siz Try.prog 60 1 := ⟨siz60⟩
instance : Zer Try.prog 60 #[.nilFunc] := zer_of (v := .nilFunc) (by kernel_rfl) rfl
instance : Sc Try.prog 61 := ⟨⟨_, Try.underlying61, rfl⟩⟩
theorem siz61 : (Try.prog.info? 61).map (·.size) = some 1 := by kernel_rfl
instance : Siz Try.prog 61 1 := ⟨siz61⟩
instance : Zer Try.prog 61 #[.nilFunc] := zer_of (v := .nilFunc) (by kernel_rfl) rfl
instance : Und Try.prog 62 (.pointer 64) := ⟨Try.underlying62⟩
instance : Sc Try.prog 62 := ⟨⟨_, Try.underlying62, rfl⟩⟩
theorem siz62 : (Try.prog.info? 62).map (·.size) = some 1 := by kernel_rfl
instance : Siz Try.prog 62 1 := ⟨siz62⟩
instance : Zer Try.prog 62 #[(.pointer none)] := zer_of (v := (.pointer none)) (by kernel_rfl) rfl
instance : Rw Try.prog 63 := ⟨⟨_, Try.underlying63, rfl⟩⟩
theorem siz63 : (Try.prog.info? 63).map (·.size) = some 1 := by kernel_rfl
instance : Siz Try.prog 63 1 := ⟨siz63⟩
instance : Zer Try.prog 63 #[(.slice none 0 0)] := zer_of (v := .agg #[(.slice none 0 0)]) (by kernel_rfl) rfl
instance : Fld Try.prog 63 0 0 := fld_of Try.underlying63 rfl rfl siz24
instance : Rw Try.prog 64 := ⟨⟨_, Try.underlying64, rfl⟩⟩
theorem siz64 : (Try.prog.info? 64).map (·.size) = some 1 := by kernel_rfl
instance : Siz Try.prog 64 1 := ⟨siz64⟩
instance : Zer Try.prog 64 #[(.slice none 0 0)] := zer_of (v := .agg #[(.slice none 0 0)]) (by kernel_rfl) rfl
instance : Fld Try.prog 64 0 0 := fld_of Try.underlying64 rfl rfl siz24
instance : Sc Try.prog 65 := ⟨⟨_, Try.underlying65, rfl⟩⟩
theorem siz65 : (Try.prog.info? 65).map (·.size) = some 1 := by kernel_rfl
instance : Siz Try.prog 65 1 := ⟨siz65⟩
instance : Zer Try.prog 65 #[.nilFunc] := zer_of (v := .nilFunc) (by kernel_rfl) rfl
instance : Sc Try.prog 66 := ⟨⟨_, Try.underlying66, rfl⟩⟩
theorem siz66 : (Try.prog.info? 66).map (·.size) = some 1 := by kernel_rfl
instance : Siz Try.prog 66 1 := ⟨siz66⟩
instance : Zer Try.prog 66 #[.nilFunc] := zer_of (v := .nilFunc) (by kernel_rfl) rfl
instance : Sc Try.prog 67 := ⟨⟨_, Try.underlying67, rfl⟩⟩
theorem siz67 : (Try.prog.info? 67).map (·.size) = some 1 := by kernel_rfl
instance : Siz Try.prog 67 1 := ⟨siz67⟩
instance : Zer Try.prog 67 #[.nilFunc] := zer_of (v := .nilFunc) (by kernel_rfl) rfl
instance : Sc Try.prog 68 := ⟨⟨_, Try.underlying68, rfl⟩⟩
theorem siz68 : (Try.prog.info? 68).map (·.size) = some 1 := by kernel_rfl
instance : Siz Try.prog 68 1 := ⟨siz68⟩
instance : Zer Try.prog 68 #[.nilFunc] := zer_of (v := .nilFunc) (by kernel_rfl) rfl
instance : Sc Try.prog 69 := ⟨⟨_, Try.underlying69, rfl⟩⟩
theorem siz69 : (Try.prog.info? 69).map (·.size) = some 1 := by kernel_rfl
instance : Siz Try.prog 69 1 := ⟨siz69⟩
instance : Zer Try.prog 69 #[.nilFunc] := zer_of (v := .nilFunc) (by kernel_rfl) rfl
instance : Sc Try.prog 70 := ⟨⟨_, Try.underlying70, rfl⟩⟩
theorem siz70 : (Try.prog.info? 70).map (·.size) = some 1 := by kernel_rfl
instance : Siz Try.prog 70 1 := ⟨siz70⟩
instance : Zer Try.prog 70 #[.nilFunc] := zer_of (v := .nilFunc) (by kernel_rfl) rfl
instance : Sc Try.prog 71 := ⟨⟨_, Try.underlying71, rfl⟩⟩
theorem siz71 : (Try.prog.info? 71).map (·.size) = some 1 := by kernel_rfl
instance : Siz Try.prog 71 1 := ⟨siz71⟩
instance : Zer Try.prog 71 #[.nilFunc] := zer_of (v := .nilFunc) (by kernel_rfl) rfl
instance : Sc Try.prog 72 := ⟨⟨_, Try.underlying72, rfl⟩⟩
theorem siz72 : (Try.prog.info? 72).map (·.size) = some 1 := by kernel_rfl
instance : Siz Try.prog 72 1 := ⟨siz72⟩
instance : Zer Try.prog 72 #[.nilFunc] := zer_of (v := .nilFunc) (by kernel_rfl) rfl
instance : Und Try.prog 73 (.int .u16) := ⟨Try.underlying73⟩
instance : Sc Try.prog 73 := ⟨⟨_, Try.underlying73, rfl⟩⟩
theorem siz73 : (Try.prog.info? 73).map (·.size) = some 1 := by kernel_rfl
instance : Siz Try.prog 73 1 := ⟨siz73⟩
instance : Zer Try.prog 73 #[(.int .u16 0)] := zer_of (v := (.int .u16 0)) (by kernel_rfl) rfl
instance : Sc Try.prog 74 := ⟨⟨_, Try.underlying74, rfl⟩⟩
theorem siz74 : (Try.prog.info? 74).map (·.size) = some 1 := by kernel_rfl
instance : Siz Try.prog 74 1 := ⟨siz74⟩
instance : Zer Try.prog 74 #[.nilFunc] := zer_of (v := .nilFunc) (by kernel_rfl) rfl
instance : Sc Try.prog 75 := ⟨⟨_, Try.underlying75, rfl⟩⟩
theorem siz75 : (Try.prog.info? 75).map (·.size) = some 1 := by kernel_rfl
instance : Siz Try.prog 75 1 := ⟨siz75⟩
instance : Zer Try.prog 75 #[.nilFunc] := zer_of (v := .nilFunc) (by kernel_rfl) rfl
instance : Sc Try.prog 76 := ⟨⟨_, Try.underlying76, rfl⟩⟩
theorem siz76 : (Try.prog.info? 76).map (·.size) = some 1 := by kernel_rfl
instance : Siz Try.prog 76 1 := ⟨siz76⟩
instance : Zer Try.prog 76 #[.nilFunc] := zer_of (v := .nilFunc) (by kernel_rfl) rfl
instance : Und Try.prog 77 (.int .u64) := ⟨Try.underlying77⟩
instance : Sc Try.prog 77 := ⟨⟨_, Try.underlying77, rfl⟩⟩
theorem siz77 : (Try.prog.info? 77).map (·.size) = some 1 := by kernel_rfl
instance : Siz Try.prog 77 1 := ⟨siz77⟩
instance : Zer Try.prog 77 #[(.int .u64 0)] := zer_of (v := (.int .u64 0)) (by kernel_rfl) rfl
instance : Sc Try.prog 78 := ⟨⟨_, Try.underlying78, rfl⟩⟩
theorem siz78 : (Try.prog.info? 78).map (·.size) = some 1 := by kernel_rfl
instance : Siz Try.prog 78 1 := ⟨siz78⟩
instance : Zer Try.prog 78 #[.nilFunc] := zer_of (v := .nilFunc) (by kernel_rfl) rfl
instance : Und Try.prog 79 (.pointer 99) := ⟨Try.underlying79⟩
instance : Sc Try.prog 79 := ⟨⟨_, Try.underlying79, rfl⟩⟩
theorem siz79 : (Try.prog.info? 79).map (·.size) = some 1 := by kernel_rfl
instance : Siz Try.prog 79 1 := ⟨siz79⟩
instance : Zer Try.prog 79 #[(.pointer none)] := zer_of (v := (.pointer none)) (by kernel_rfl) rfl
instance : Sc Try.prog 80 := ⟨⟨_, Try.underlying80, rfl⟩⟩
theorem siz80 : (Try.prog.info? 80).map (·.size) = some 1 := by kernel_rfl
instance : Siz Try.prog 80 1 := ⟨siz80⟩
instance : Zer Try.prog 80 #[.nilFunc] := zer_of (v := .nilFunc) (by kernel_rfl) rfl
instance : Sc Try.prog 81 := ⟨⟨_, Try.underlying81, rfl⟩⟩
theorem siz81 : (Try.prog.info? 81).map (·.size) = some 1 := by kernel_rfl
instance : Siz Try.prog 81 1 := ⟨siz81⟩
instance : Zer Try.prog 81 #[.nilFunc] := zer_of (v := .nilFunc) (by kernel_rfl) rfl
instance : Sc Try.prog 82 := ⟨⟨_, Try.underlying82, rfl⟩⟩
theorem siz82 : (Try.prog.info? 82).map (·.size) = some 1 := by kernel_rfl
instance : Siz Try.prog 82 1 := ⟨siz82⟩
instance : Zer Try.prog 82 #[.nilFunc] := zer_of (v := .nilFunc) (by kernel_rfl) rfl
instance : Sc Try.prog 83 := ⟨⟨_, Try.underlying83, rfl⟩⟩
theorem siz83 : (Try.prog.info? 83).map (·.size) = some 1 := by kernel_rfl
instance : Siz Try.prog 83 1 := ⟨siz83⟩
instance : Zer Try.prog 83 #[.nilFunc] := zer_of (v := .nilFunc) (by kernel_rfl) rfl
instance : Sc Try.prog 84 := ⟨⟨_, Try.underlying84, rfl⟩⟩
theorem siz84 : (Try.prog.info? 84).map (·.size) = some 1 := by kernel_rfl
instance : Siz Try.prog 84 1 := ⟨siz84⟩
instance : Zer Try.prog 84 #[.nilFunc] := zer_of (v := .nilFunc) (by kernel_rfl) rfl
instance : Sc Try.prog 85 := ⟨⟨_, Try.underlying85, rfl⟩⟩
theorem siz85 : (Try.prog.info? 85).map (·.size) = some 1 := by kernel_rfl
instance : Siz Try.prog 85 1 := ⟨siz85⟩
instance : Zer Try.prog 85 #[.nilFunc] := zer_of (v := .nilFunc) (by kernel_rfl) rfl
instance : Sc Try.prog 86 := ⟨⟨_, Try.underlying86, rfl⟩⟩
theorem siz86 : (Try.prog.info? 86).map (·.size) = some 1 := by kernel_rfl
instance : Siz Try.prog 86 1 := ⟨siz86⟩
instance : Zer Try.prog 86 #[.nilFunc] := zer_of (v := .nilFunc) (by kernel_rfl) rfl
instance : Sc Try.prog 87 := ⟨⟨_, Try.underlying87, rfl⟩⟩
theorem siz87 : (Try.prog.info? 87).map (·.size) = some 1 := by kernel_rfl
instance : Siz Try.prog 87 1 := ⟨siz87⟩
instance : Zer Try.prog 87 #[.nilFunc] := zer_of (v := .nilFunc) (by kernel_rfl) rfl
instance : Sc Try.prog 88 := ⟨⟨_, Try.underlying88, rfl⟩⟩
theorem siz88 : (Try.prog.info? 88).map (·.size) = some 1 := by kernel_rfl
instance : Siz Try.prog 88 1 := ⟨siz88⟩
instance : Zer Try.prog 88 #[.nilFunc] := zer_of (v := .nilFunc) (by kernel_rfl) rfl
instance : Sc Try.prog 89 := ⟨⟨_, Try.underlying89, rfl⟩⟩
theorem siz89 : (Try.prog.info? 89).map (·.size) = some 1 := by kernel_rfl
instance : Siz Try.prog 89 1 := ⟨siz89⟩
instance : Zer Try.prog 89 #[.nilFunc] := zer_of (v := .nilFunc) (by kernel_rfl) rfl
instance : Sc Try.prog 90 := ⟨⟨_, Try.underlying90, rfl⟩⟩
theorem siz90 : (Try.prog.info? 90).map (·.size) = some 1 := by kernel_rfl
instance : Siz Try.prog 90 1 := ⟨siz90⟩
instance : Zer Try.prog 90 #[.nilFunc] := zer_of (v := .nilFunc) (by kernel_rfl) rfl
instance : Sc Try.prog 91 := ⟨⟨_, Try.underlying91, rfl⟩⟩
theorem siz91 : (Try.prog.info? 91).map (·.size) = some 1 := by kernel_rfl
instance : Siz Try.prog 91 1 := ⟨siz91⟩
instance : Zer Try.prog 91 #[.nilFunc] := zer_of (v := .nilFunc) (by kernel_rfl) rfl
instance : Sc Try.prog 92 := ⟨⟨_, Try.underlying92, rfl⟩⟩
theorem siz92 : (Try.prog.info? 92).map (·.size) = some 1 := by kernel_rfl
instance : Siz Try.prog 92 1 := ⟨siz92⟩
instance : Zer Try.prog 92 #[.nilFunc] := zer_of (v := .nilFunc) (by kernel_rfl) rfl
instance : Sc Try.prog 93 := ⟨⟨_, Try.underlying93, rfl⟩⟩
theorem siz93 : (Try.prog.info? 93).map (·.size) = some 1 := by kernel_rfl
instance : Siz Try.prog 93 1 := ⟨siz93⟩
instance : Zer Try.prog 93 #[.nilFunc] := zer_of (v := .nilFunc) (by kernel_rfl) rfl
instance : Sc Try.prog 94 := ⟨⟨_, Try.underlying94, rfl⟩⟩
theorem siz94 : (Try.prog.info? 94).map (·.size) = some 1 := by kernel_rfl
instance : Siz Try.prog 94 1 := ⟨siz94⟩
instance : Zer Try.prog 94 #[.nilFunc] := zer_of (v := .nilFunc) (by kernel_rfl) rfl
instance : Sc Try.prog 95 := ⟨⟨_, Try.underlying95, rfl⟩⟩
theorem siz95 : (Try.prog.info? 95).map (·.size) = some 1 := by kernel_rfl
instance : Siz Try.prog 95 1 := ⟨siz95⟩
instance : Zer Try.prog 95 #[.nilFunc] := zer_of (v := .nilFunc) (by kernel_rfl) rfl
instance : Rw Try.prog 96 := ⟨⟨_, Try.underlying96, rfl⟩⟩
theorem siz96 : (Try.prog.info? 96).map (·.size) = some 3 := by kernel_rfl
instance : Siz Try.prog 96 3 := ⟨siz96⟩
instance : Zer Try.prog 96 #[(.slice none 0 0), (.int .i64 0), (.int .i64 0)] := zer_of (v := .agg #[(.slice none 0 0), (.int .i64 0), (.int .i64 0)]) (by kernel_rfl) rfl
instance : Fld Try.prog 96 0 0 := fld_of Try.underlying96 rfl rfl siz35
instance : Fld Try.prog 96 1 1 := fld_of Try.underlying96 rfl rfl siz3
instance : Fld Try.prog 96 2 2 := fld_of Try.underlying96 rfl rfl siz28
instance : Rw Try.prog 97 := ⟨⟨_, Try.underlying97, rfl⟩⟩
theorem siz97 : (Try.prog.info? 97).map (·.size) = some 3 := by kernel_rfl
instance : Siz Try.prog 97 3 := ⟨siz97⟩
instance : Zer Try.prog 97 #[(.slice none 0 0), (.int .i64 0), (.int .i64 0)] := zer_of (v := .agg #[(.slice none 0 0), (.int .i64 0), (.int .i64 0)]) (by kernel_rfl) rfl
instance : Fld Try.prog 97 0 0 := fld_of Try.underlying97 rfl rfl siz35
instance : Fld Try.prog 97 1 1 := fld_of Try.underlying97 rfl rfl siz3
instance : Fld Try.prog 97 2 2 := fld_of Try.underlying97 rfl rfl siz28
instance : Rw Try.prog 98 := ⟨⟨_, Try.underlying98, rfl⟩⟩
theorem siz98 : (Try.prog.info? 98).map (·.size) = some 3 := by kernel_rfl
instance : Siz Try.prog 98 3 := ⟨siz98⟩
instance : Zer Try.prog 98 #[(.slice none 0 0), (.int .i64 0), (.int .i64 0)] := zer_of (v := .agg #[(.slice none 0 0), (.int .i64 0), (.int .i64 0)]) (by kernel_rfl) rfl
instance : Fld Try.prog 98 0 0 := fld_of Try.underlying98 rfl rfl siz97
instance : Rw Try.prog 99 := ⟨⟨_, Try.underlying99, rfl⟩⟩
theorem siz99 : (Try.prog.info? 99).map (·.size) = some 3 := by kernel_rfl
instance : Siz Try.prog 99 3 := ⟨siz99⟩
instance : Zer Try.prog 99 #[(.slice none 0 0), (.int .i64 0), (.int .i64 0)] := zer_of (v := .agg #[(.slice none 0 0), (.int .i64 0), (.int .i64 0)]) (by kernel_rfl) rfl
instance : Fld Try.prog 99 0 0 := fld_of Try.underlying99 rfl rfl siz97
instance : Sc Try.prog 100 := ⟨⟨_, Try.underlying100, rfl⟩⟩
theorem siz100 : (Try.prog.info? 100).map (·.size) = some 1 := by kernel_rfl
instance : Siz Try.prog 100 1 := ⟨siz100⟩
instance : Zer Try.prog 100 #[.nilFunc] := zer_of (v := .nilFunc) (by kernel_rfl) rfl
instance : Sc Try.prog 101 := ⟨⟨_, Try.underlying101, rfl⟩⟩
theorem siz101 : (Try.prog.info? 101).map (·.size) = some 1 := by kernel_rfl
instance : Siz Try.prog 101 1 := ⟨siz101⟩
instance : Zer Try.prog 101 #[.nilFunc] := zer_of (v := .nilFunc) (by kernel_rfl) rfl
instance : Sc Try.prog 102 := ⟨⟨_, Try.underlying102, rfl⟩⟩
theorem siz102 : (Try.prog.info? 102).map (·.size) = some 1 := by kernel_rfl
instance : Siz Try.prog 102 1 := ⟨siz102⟩
instance : Zer Try.prog 102 #[.nilFunc] := zer_of (v := .nilFunc) (by kernel_rfl) rfl
instance : Sc Try.prog 103 := ⟨⟨_, Try.underlying103, rfl⟩⟩
theorem siz103 : (Try.prog.info? 103).map (·.size) = some 1 := by kernel_rfl
instance : Siz Try.prog 103 1 := ⟨siz103⟩
instance : Zer Try.prog 103 #[.nilFunc] := zer_of (v := .nilFunc) (by kernel_rfl) rfl
instance : Und Try.prog 104 (.int .u64) := ⟨Try.underlying104⟩
instance : Sc Try.prog 104 := ⟨⟨_, Try.underlying104, rfl⟩⟩
theorem siz104 : (Try.prog.info? 104).map (·.size) = some 1 := by kernel_rfl
instance : Siz Try.prog 104 1 := ⟨siz104⟩
instance : Zer Try.prog 104 #[(.int .u64 0)] := zer_of (v := (.int .u64 0)) (by kernel_rfl) rfl
instance : Sc Try.prog 105 := ⟨⟨_, Try.underlying105, rfl⟩⟩
theorem siz105 : (Try.prog.info? 105).map (·.size) = some 1 := by kernel_rfl
instance : Siz Try.prog 105 1 := ⟨siz105⟩
instance : Zer Try.prog 105 #[.nilFunc] := zer_of (v := .nilFunc) (by kernel_rfl) rfl
instance : Sc Try.prog 106 := ⟨⟨_, Try.underlying106, rfl⟩⟩
theorem siz106 : (Try.prog.info? 106).map (·.size) = some 1 := by kernel_rfl
instance : Siz Try.prog 106 1 := ⟨siz106⟩
instance : Zer Try.prog 106 #[.nilFunc] := zer_of (v := .nilFunc) (by kernel_rfl) rfl
instance : Und Try.prog 107 (.pointer 97) := ⟨Try.underlying107⟩
instance : Sc Try.prog 107 := ⟨⟨_, Try.underlying107, rfl⟩⟩
theorem siz107 : (Try.prog.info? 107).map (·.size) = some 1 := by kernel_rfl
instance : Siz Try.prog 107 1 := ⟨siz107⟩
instance : Zer Try.prog 107 #[(.pointer none)] := zer_of (v := (.pointer none)) (by kernel_rfl) rfl
instance : Sc Try.prog 108 := ⟨⟨_, Try.underlying108, rfl⟩⟩
theorem siz108 : (Try.prog.info? 108).map (·.size) = some 1 := by kernel_rfl
instance : Siz Try.prog 108 1 := ⟨siz108⟩
instance : Zer Try.prog 108 #[.nilFunc] := zer_of (v := .nilFunc) (by kernel_rfl) rfl
instance : Sc Try.prog 109 := ⟨⟨_, Try.underlying109, rfl⟩⟩
theorem siz109 : (Try.prog.info? 109).map (·.size) = some 1 := by kernel_rfl
instance : Siz Try.prog 109 1 := ⟨siz109⟩
instance : Zer Try.prog 109 #[.nilFunc] := zer_of (v := .nilFunc) (by kernel_rfl) rfl
instance : Rw Try.prog 110 := ⟨⟨_, Try.underlying110, rfl⟩⟩
theorem siz110 : (Try.prog.info? 110).map (·.size) = some 4 := by kernel_rfl
instance : Siz Try.prog 110 4 := ⟨siz110⟩
instance : Zer Try.prog 110 #[(.pointer none), (.pointer none), (.pointer none), (.string ByteArray.empty)] := zer_of (v := .agg #[(.pointer none), (.pointer none), (.pointer none), (.string ByteArray.empty)]) (by kernel_rfl) rfl
instance : Fld Try.prog 110 0 0 := fld_of Try.underlying110 rfl rfl siz17
instance : Fld Try.prog 110 1 1 := fld_of Try.underlying110 rfl rfl siz17
instance : Fld Try.prog 110 2 2 := fld_of Try.underlying110 rfl rfl siz17
instance : Fld Try.prog 110 3 3 := fld_of Try.underlying110 rfl rfl siz9
instance : Rw Try.prog 111 := ⟨⟨_, Try.underlying111, rfl⟩⟩
theorem siz111 : (Try.prog.info? 111).map (·.size) = some 4 := by kernel_rfl
instance : Siz Try.prog 111 4 := ⟨siz111⟩
instance : Zer Try.prog 111 #[(.pointer none), (.pointer none), (.pointer none), (.string ByteArray.empty)] := zer_of (v := .agg #[(.pointer none), (.pointer none), (.pointer none), (.string ByteArray.empty)]) (by kernel_rfl) rfl
instance : Fld Try.prog 111 0 0 := fld_of Try.underlying111 rfl rfl siz17
instance : Fld Try.prog 111 1 1 := fld_of Try.underlying111 rfl rfl siz17
instance : Fld Try.prog 111 2 2 := fld_of Try.underlying111 rfl rfl siz17
instance : Fld Try.prog 111 3 3 := fld_of Try.underlying111 rfl rfl siz9
instance : Und Try.prog 112 (.array 0 16) := ⟨Try.underlying112⟩
instance : Rw Try.prog 112 := ⟨⟨_, Try.underlying112, rfl⟩⟩
theorem siz112 : (Try.prog.info? 112).map (·.size) = some 0 := by kernel_rfl
instance : Siz Try.prog 112 0 := ⟨siz112⟩
instance : Zer Try.prog 112 #[] := zer_of (v := .agg #[]) (by kernel_rfl) rfl
instance : Rw Try.prog 113 := ⟨⟨_, Try.underlying113, rfl⟩⟩
theorem siz113 : (Try.prog.info? 113).map (·.size) = some 0 := by kernel_rfl
instance : Siz Try.prog 113 0 := ⟨siz113⟩
instance : Zer Try.prog 113 #[] := zer_of (v := .agg #[]) (by kernel_rfl) rfl
instance : Rw Try.prog 114 := ⟨⟨_, Try.underlying114, rfl⟩⟩
theorem siz114 : (Try.prog.info? 114).map (·.size) = some 0 := by kernel_rfl
instance : Siz Try.prog 114 0 := ⟨siz114⟩
instance : Zer Try.prog 114 #[] := zer_of (v := .agg #[]) (by kernel_rfl) rfl
instance : Und Try.prog 115 (.int .u32) := ⟨Try.underlying115⟩
instance : Sc Try.prog 115 := ⟨⟨_, Try.underlying115, rfl⟩⟩
theorem siz115 : (Try.prog.info? 115).map (·.size) = some 1 := by kernel_rfl
instance : Siz Try.prog 115 1 := ⟨siz115⟩
instance : Zer Try.prog 115 #[(.int .u32 0)] := zer_of (v := (.int .u32 0)) (by kernel_rfl) rfl
instance : Und Try.prog 116 (.int .u8) := ⟨Try.underlying116⟩
instance : Sc Try.prog 116 := ⟨⟨_, Try.underlying116, rfl⟩⟩
theorem siz116 : (Try.prog.info? 116).map (·.size) = some 1 := by kernel_rfl
instance : Siz Try.prog 116 1 := ⟨siz116⟩
instance : Zer Try.prog 116 #[(.int .u8 0)] := zer_of (v := (.int .u8 0)) (by kernel_rfl) rfl
instance : Und Try.prog 117 (.int .u8) := ⟨Try.underlying117⟩
instance : Sc Try.prog 117 := ⟨⟨_, Try.underlying117, rfl⟩⟩
theorem siz117 : (Try.prog.info? 117).map (·.size) = some 1 := by kernel_rfl
instance : Siz Try.prog 117 1 := ⟨siz117⟩
instance : Zer Try.prog 117 #[(.int .u8 0)] := zer_of (v := (.int .u8 0)) (by kernel_rfl) rfl
instance : Sc Try.prog 118 := ⟨⟨_, Try.underlying118, rfl⟩⟩
theorem siz118 : (Try.prog.info? 118).map (·.size) = some 1 := by kernel_rfl
instance : Siz Try.prog 118 1 := ⟨siz118⟩
instance : Zer Try.prog 118 #[.nilFunc] := zer_of (v := .nilFunc) (by kernel_rfl) rfl
instance : Und Try.prog 119 (.pointer 5) := ⟨Try.underlying119⟩
instance : Sc Try.prog 119 := ⟨⟨_, Try.underlying119, rfl⟩⟩
theorem siz119 : (Try.prog.info? 119).map (·.size) = some 1 := by kernel_rfl
instance : Siz Try.prog 119 1 := ⟨siz119⟩
instance : Zer Try.prog 119 #[(.pointer none)] := zer_of (v := (.pointer none)) (by kernel_rfl) rfl
instance : Und Try.prog 120 (.int .i32) := ⟨Try.underlying120⟩
instance : Sc Try.prog 120 := ⟨⟨_, Try.underlying120, rfl⟩⟩
theorem siz120 : (Try.prog.info? 120).map (·.size) = some 1 := by kernel_rfl
instance : Siz Try.prog 120 1 := ⟨siz120⟩
instance : Zer Try.prog 120 #[(.int .i32 0)] := zer_of (v := (.int .i32 0)) (by kernel_rfl) rfl
instance : Und Try.prog 121 (.int .i32) := ⟨Try.underlying121⟩
instance : Sc Try.prog 121 := ⟨⟨_, Try.underlying121, rfl⟩⟩
theorem siz121 : (Try.prog.info? 121).map (·.size) = some 1 := by kernel_rfl
instance : Siz Try.prog 121 1 := ⟨siz121⟩
instance : Zer Try.prog 121 #[(.int .i32 0)] := zer_of (v := (.int .i32 0)) (by kernel_rfl) rfl
instance : Rw Try.prog 122 := ⟨⟨_, Try.underlying122, rfl⟩⟩
theorem siz122 : (Try.prog.info? 122).map (·.size) = some 11 := by kernel_rfl
instance : Siz Try.prog 122 11 := ⟨siz122⟩
instance : Zer Try.prog 122 #[(.int .u64 0), (.int .u64 0), (.int .u32 0), (.int .u8 0), (.int .u8 0), (.int .u8 0), (.int .u8 0), .nilFunc, (.pointer none), (.int .i32 0), (.int .i32 0)] := zer_of (v := .agg #[(.int .u64 0), (.int .u64 0), (.int .u32 0), (.int .u8 0), (.int .u8 0), (.int .u8 0), (.int .u8 0), .nilFunc, (.pointer none), (.int .i32 0), (.int .i32 0)]) (by kernel_rfl) rfl
instance : Fld Try.prog 122 0 0 := fld_of Try.underlying122 rfl rfl siz12
instance : Fld Try.prog 122 1 1 := fld_of Try.underlying122 rfl rfl siz12
instance : Fld Try.prog 122 2 2 := fld_of Try.underlying122 rfl rfl siz115
instance : Fld Try.prog 122 3 3 := fld_of Try.underlying122 rfl rfl siz116
instance : Fld Try.prog 122 4 4 := fld_of Try.underlying122 rfl rfl siz5
instance : Fld Try.prog 122 5 5 := fld_of Try.underlying122 rfl rfl siz5
instance : Fld Try.prog 122 6 6 := fld_of Try.underlying122 rfl rfl siz117
instance : Fld Try.prog 122 7 7 := fld_of Try.underlying122 rfl rfl siz118
instance : Fld Try.prog 122 8 8 := fld_of Try.underlying122 rfl rfl siz119
instance : Fld Try.prog 122 9 9 := fld_of Try.underlying122 rfl rfl siz120
instance : Fld Try.prog 122 10 10 := fld_of Try.underlying122 rfl rfl siz121
instance : Rw Try.prog 123 := ⟨⟨_, Try.underlying123, rfl⟩⟩
theorem siz123 : (Try.prog.info? 123).map (·.size) = some 11 := by kernel_rfl
instance : Siz Try.prog 123 11 := ⟨siz123⟩
instance : Zer Try.prog 123 #[(.int .u64 0), (.int .u64 0), (.int .u32 0), (.int .u8 0), (.int .u8 0), (.int .u8 0), (.int .u8 0), .nilFunc, (.pointer none), (.int .i32 0), (.int .i32 0)] := zer_of (v := .agg #[(.int .u64 0), (.int .u64 0), (.int .u32 0), (.int .u8 0), (.int .u8 0), (.int .u8 0), (.int .u8 0), .nilFunc, (.pointer none), (.int .i32 0), (.int .i32 0)]) (by kernel_rfl) rfl
instance : Fld Try.prog 123 0 0 := fld_of Try.underlying123 rfl rfl siz12
instance : Fld Try.prog 123 1 1 := fld_of Try.underlying123 rfl rfl siz12
instance : Fld Try.prog 123 2 2 := fld_of Try.underlying123 rfl rfl siz115
instance : Fld Try.prog 123 3 3 := fld_of Try.underlying123 rfl rfl siz116
instance : Fld Try.prog 123 4 4 := fld_of Try.underlying123 rfl rfl siz5
instance : Fld Try.prog 123 5 5 := fld_of Try.underlying123 rfl rfl siz5
instance : Fld Try.prog 123 6 6 := fld_of Try.underlying123 rfl rfl siz117
instance : Fld Try.prog 123 7 7 := fld_of Try.underlying123 rfl rfl siz118
instance : Fld Try.prog 123 8 8 := fld_of Try.underlying123 rfl rfl siz119
instance : Fld Try.prog 123 9 9 := fld_of Try.underlying123 rfl rfl siz120
instance : Fld Try.prog 123 10 10 := fld_of Try.underlying123 rfl rfl siz121
instance : Sc Try.prog 124 := ⟨⟨_, Try.underlying124, rfl⟩⟩
theorem siz124 : (Try.prog.info? 124).map (·.size) = some 1 := by kernel_rfl
instance : Siz Try.prog 124 1 := ⟨siz124⟩
instance : Zer Try.prog 124 #[(.pointer none)] := zer_of (v := (.pointer none)) (by kernel_rfl) rfl
instance : Ent Try.prog 3 := ent_of Try.func3 (by kernel_rfl) (by kernel_rfl)
instance : Ent Try.prog 4 := ent_of Try.func4 (by kernel_rfl) (by kernel_rfl)
instance : Ent Try.prog 5 := ent_of Try.func5 (by kernel_rfl) (by kernel_rfl)
instance : Ent Try.prog 6 := ent_of Try.func6 (by kernel_rfl) (by kernel_rfl)
instance : Ent Try.prog 7 := ent_of Try.func7 (by kernel_rfl) (by kernel_rfl)
instance : Ent Try.prog 8 := ent_of Try.func8 (by kernel_rfl) (by kernel_rfl)
instance : Ent Try.prog 9 := ent_of Try.func9 (by kernel_rfl) (by kernel_rfl)
instance : Ent Try.prog 10 := ent_of Try.func10 (by kernel_rfl) (by kernel_rfl)
instance : Ent Try.prog 11 := ent_of Try.func11 (by kernel_rfl) (by kernel_rfl)
instance : Ent Try.prog 12 := ent_of Try.func12 (by kernel_rfl) (by kernel_rfl)
instance : Ent Try.prog 13 := ent_of Try.func13 (by kernel_rfl) (by kernel_rfl)
instance : Ent Try.prog 14 := ent_of Try.func14 (by kernel_rfl) (by kernel_rfl)
instance : Ent Try.prog 15 := ent_of Try.func15 (by kernel_rfl) (by kernel_rfl)
instance : Ent Try.prog 16 := ent_of Try.func16 (by kernel_rfl) (by kernel_rfl)
instance : Ent Try.prog 17 := ent_of Try.func17 (by kernel_rfl) (by kernel_rfl)
instance : Ent Try.prog 18 := ent_of Try.func18 (by kernel_rfl) (by kernel_rfl)
instance : Ent Try.prog 19 := ent_of Try.func19 (by kernel_rfl) (by kernel_rfl)
instance : Ent Try.prog 20 := ent_of Try.func20 (by kernel_rfl) (by kernel_rfl)
instance : Ent Try.prog 21 := ent_of Try.func21 (by kernel_rfl) (by kernel_rfl)
instance : Ent Try.prog 22 := ent_of Try.func22 (by kernel_rfl) (by kernel_rfl)
instance : Ent Try.prog 23 := ent_of Try.func23 (by kernel_rfl) (by kernel_rfl)
instance : Ent Try.prog 24 := ent_of Try.func24 (by kernel_rfl) (by kernel_rfl)
instance : Ent Try.prog 25 := ent_of Try.func25 (by kernel_rfl) (by kernel_rfl)
instance : Ent Try.prog 26 := ent_of Try.func26 (by kernel_rfl) (by kernel_rfl)
instance : Ent Try.prog 27 := ent_of Try.func27 (by kernel_rfl) (by kernel_rfl)
instance : Ent Try.prog 28 := ent_of Try.func28 (by kernel_rfl) (by kernel_rfl)
instance : Ent Try.prog 29 := ent_of Try.func29 (by kernel_rfl) (by kernel_rfl)
instance : Ent Try.prog 30 := ent_of Try.func30 (by kernel_rfl) (by kernel_rfl)
instance : Ent Try.prog 31 := ent_of Try.func31 (by kernel_rfl) (by kernel_rfl)
instance : Ent Try.prog 32 := ent_of Try.func32 (by kernel_rfl) (by kernel_rfl)
instance : Ent Try.prog 33 := ent_of Try.func33 (by kernel_rfl) (by kernel_rfl)
instance : Ent Try.prog 34 := ent_of Try.func34 (by kernel_rfl) (by kernel_rfl)
instance : Ent Try.prog 35 := ent_of Try.func35 (by kernel_rfl) (by kernel_rfl)
instance : Ent Try.prog 36 := ent_of Try.func36 (by kernel_rfl) (by kernel_rfl)
instance : Ent Try.prog 37 := ent_of Try.func37 (by kernel_rfl) (by kernel_rfl)
instance : Ent Try.prog 38 := ent_of Try.func38 (by kernel_rfl) (by kernel_rfl)
instance : Ent Try.prog 39 := ent_of Try.func39 (by kernel_rfl) (by kernel_rfl)
instance : Ent Try.prog 40 := ent_of Try.func40 (by kernel_rfl) (by kernel_rfl)
instance : Ent Try.prog 41 := ent_of Try.func41 (by kernel_rfl) (by kernel_rfl)
instance : Ent Try.prog 42 := ent_of Try.func42 (by kernel_rfl) (by kernel_rfl)
instance : Ent Try.prog 43 := ent_of Try.func43 (by kernel_rfl) (by kernel_rfl)
instance : Ent Try.prog 44 := ent_of Try.func44 (by kernel_rfl) (by kernel_rfl)
instance : Ent Try.prog 45 := ent_of Try.func45 (by kernel_rfl) (by kernel_rfl)
instance : Ent Try.prog 46 := ent_of Try.func46 (by kernel_rfl) (by kernel_rfl)
instance : Ent Try.prog 47 := ent_of Try.func47 (by kernel_rfl) (by kernel_rfl)
instance : Ent Try.prog 48 := ent_of Try.func48 (by kernel_rfl) (by kernel_rfl)
instance : Ent Try.prog 49 := ent_of Try.func49 (by kernel_rfl) (by kernel_rfl)
instance : Ent Try.prog 50 := ent_of Try.func50 (by kernel_rfl) (by kernel_rfl)
instance : Ent Try.prog 51 := ent_of Try.func51 (by kernel_rfl) (by kernel_rfl)
instance : Ent Try.prog 52 := ent_of Try.func52 (by kernel_rfl) (by kernel_rfl)
instance : Ent Try.prog 53 := ent_of Try.func53 (by kernel_rfl) (by kernel_rfl)
instance : Ent Try.prog 54 := ent_of Try.func54 (by kernel_rfl) (by kernel_rfl)
instance : Ent Try.prog 55 := ent_of Try.func55 (by kernel_rfl) (by kernel_rfl)
instance : Ent Try.prog 56 := ent_of Try.func56 (by kernel_rfl) (by kernel_rfl)
instance : Ent Try.prog 57 := ent_of Try.func57 (by kernel_rfl) (by kernel_rfl)
instance : Ent Try.prog 58 := ent_of Try.func58 (by kernel_rfl) (by kernel_rfl)
instance : Ent Try.prog 59 := ent_of Try.func59 (by kernel_rfl) (by kernel_rfl)
instance : Ent Try.prog 60 := ent_of Try.func60 (by kernel_rfl) (by kernel_rfl)
instance : Ent Try.prog 61 := ent_of Try.func61 (by kernel_rfl) (by kernel_rfl)
instance : Ent Try.prog 62 := ent_of Try.func62 (by kernel_rfl) (by kernel_rfl)
instance : Ent Try.prog 63 := ent_of Try.func63 (by kernel_rfl) (by kernel_rfl)
instance : Ent Try.prog 64 := ent_of Try.func64 (by kernel_rfl) (by kernel_rfl)
instance : Ent Try.prog 65 := ent_of Try.func65 (by kernel_rfl) (by kernel_rfl)
instance : Ent Try.prog 66 := ent_of Try.func66 (by kernel_rfl) (by kernel_rfl)
instance : Ent Try.prog 67 := ent_of Try.func67 (by kernel_rfl) (by kernel_rfl)
instance : Ent Try.prog 68 := ent_of Try.func68 (by kernel_rfl) (by kernel_rfl)
instance : Ent Try.prog 69 := ent_of Try.func69 (by kernel_rfl) (by kernel_rfl)
instance : Ent Try.prog 70 := ent_of Try.func70 (by kernel_rfl) (by kernel_rfl)
instance : Ent Try.prog 71 := ent_of Try.func71 (by kernel_rfl) (by kernel_rfl)
instance : Ent Try.prog 72 := ent_of Try.func72 (by kernel_rfl) (by kernel_rfl)
instance : Ent Try.prog 73 := ent_of Try.func73 (by kernel_rfl) (by kernel_rfl)
instance : Ent Try.prog 75 := ent_of Try.func75 (by kernel_rfl) (by kernel_rfl)
instance : Ent Try.prog 76 := ent_of Try.func76 (by kernel_rfl) (by kernel_rfl)
instance : Ent Try.prog 77 := ent_of Try.func77 (by kernel_rfl) (by kernel_rfl)

end Go.Proofs.Ytjgobljclodpfaa
