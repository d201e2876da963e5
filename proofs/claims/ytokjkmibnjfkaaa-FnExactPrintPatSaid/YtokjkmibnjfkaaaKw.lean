/- The keywords. -/
import Derived.Test.YtokjkmibnjfkaaaStr
namespace Go.Proofs.Ytokjkmibnjfkaaa
def kwList : List ByteArray := [⟨#[108, 101, 116]⟩, ⟨#[114, 101, 99]⟩, ⟨#[105, 110]⟩, ⟨#[102, 117, 110]⟩, ⟨#[105, 102]⟩, ⟨#[116, 104, 101, 110]⟩, ⟨#[101, 108, 115, 101]⟩, ⟨#[109, 97, 116, 99, 104]⟩, ⟨#[119, 105, 116, 104]⟩, ⟨#[101, 110, 100]⟩, ⟨#[116, 121, 112, 101]⟩, ⟨#[111, 102]⟩, ⟨#[114, 97, 105, 115, 101]⟩, ⟨#[116, 114, 121]⟩, ⟨#[114, 101, 102]⟩, ⟨#[116, 114, 117, 101]⟩, ⟨#[102, 97, 108, 115, 101]⟩]
def kwCells : List Value := kwList.map Value.string
def nameM (l : ByteArray) : Bool := wordM l.data.toList && headIs lowB l.data.toList && !inL l kwList
end Go.Proofs.Ytokjkmibnjfkaaa
